/- Walks: bounds, and what tells a reduction. -/
import Derived.Test.YtmleipmilmeclaaDoorXWa
namespace Go.Proofs.YtmleipmilmeclaaDoor
open Go.RowKit
attribute [local go_sem ↓] Go.wp_at_zero Go.wp_at_succ

set_option maxHeartbeats 4000000 in
theorem bounds_any (r : R) (hr : r.Num) (h2 : 2 ≤ r.i) (w : World) :
    Calls Tryd.prog 49 #[rv r] w fun e w' => e = .returned (.tuple #[hl (r.l + r.m + r.l * (r.i - 2)), hl (r.l + r.m + r.m * (r.i - 2))]) ∧ Below w.heap.size w w' := by
  obtain ⟨c, i, s, l, m⟩ := r
  have hl1 := hr.l
  have hm1 := hr.m
  have i1 := hr.i1
  have c1 := hr.c1
  simp only at hl1 hm1 i1 c1 h2 ⊢
  have S1 : S120 l := by unfold I64 S120 at *; omega
  have S2 : S120 m := by unfold I64 S120 at *; omega
  have S3 : S120 (l + m) := by unfold I64 S120 at *; omega
  have S4 := S120.of (mul_S120 hl1 (show 0 ≤ i - 2 by omega) (by omega))
  have S5 := S120.of (mul_S120 hm1 (show 0 ≤ i - 2 by omega) (by omega))
  have i2 : i ≤ 1073741824 := by omega
  clear hr i1 c1
  simp only [rv]
  go_enter Tryd.func49, Tryd.ntmps49
  go_upto_region 1 with fail
  go_cut [4] (fun p wx => ∃ b : Nat, p = .pointer (some ⟨b, 0, none⟩) ∧ w.heap.size + 2 < b ∧ Blk wx b #[.int .i64 (hi (l + m)), .int .u64 (lo (l + m))] 92 ∧
    Blk wx w.heap.size #[.int .i64 c, .int .i64 i, .int .i64 (hi s), .int .u64 (lo s), .int .i64 l, .int .i64 m] 30 ∧ Blk wx (w.heap.size + 1) #[.int .i64 0, .int .u64 0] 92 ∧ Blk wx (w.heap.size + 1 + 1) #[.int .i64 0, .int .u64 0] 92 ∧ Below w.heap.size w wx)
  case first =>
    have hS : Hold w.heap.size #[.int .i64 c, .int .i64 i, .int .i64 (hi s), .int .u64 (lo s), .int .i64 l, .int .i64 m] 30 (((w.alloc (.cells #[.int .i64 c, .int .i64 i, .int .i64 (hi s), .int .u64 (lo s), .int .i64 l, .int .i64 m] 30)).alloc (.cells #[.int .i64 0, .int .u64 0] 92)).alloc (.cells #[.int .i64 0, .int .u64 0] 92)) :=
      ((Hold.mk' (Blk.new w _ _)).alloc _).alloc _
    have hS1 : Blk (((w.alloc (.cells #[.int .i64 c, .int .i64 i, .int .i64 (hi s), .int .u64 (lo s), .int .i64 l, .int .i64 m] 30)).alloc (.cells #[.int .i64 0, .int .u64 0] 92)).alloc (.cells #[.int .i64 0, .int .u64 0] 92)) (w.heap.size + 1) #[.int .i64 0, .int .u64 0] 92 := by simpa using (Blk.new (w.alloc _) _ _).alloc _
    have hS2 : Blk (((w.alloc (.cells #[.int .i64 c, .int .i64 i, .int .i64 (hi s), .int .u64 (lo s), .int .i64 l, .int .i64 m] 30)).alloc (.cells #[.int .i64 0, .int .u64 0] 92)).alloc (.cells #[.int .i64 0, .int .u64 0] 92)) (w.heap.size + 1 + 1) #[.int .i64 0, .int .u64 0] 92 := by simpa using Blk.new ((w.alloc _).alloc _) _ _
    go_region_held3 (fun w' => Blk w' w.heap.size #[.int .i64 c, .int .i64 i, .int .i64 (hi s), .int .u64 (lo s), .int .i64 l, .int .i64 m] 30 ∧ ∀ k, w'.cell? ⟨w.heap.size, k, none⟩ = #[Value.int .i64 c, .int .i64 i, .int .i64 (hi s), .int .u64 (lo s), .int .i64 l, .int .i64 m][k]?)
      (first | exact Hold.drew hS | exact Hold.alloc ‹_› _ | exact Hold.kept ‹_› hb3 | exact Hold.kept ‹_› hb2 | exact Hold.kept ‹_› hb1 | exact Hold.other ‹_› (by go_size) _ | exact Hold.far (Hold.far ‹_› _ (by simp only []; omega)) _ (by simp only []; omega))
      (first
        | (go_at_call_of 47 (Value.int .i64 l); refine (of_any _ (by assumption) _).mono ?_; rintro e w1 ⟨rfl, hb1⟩; obtain ⟨hc1, hf1⟩ := bcell hb1; have hz1 := hb1.size; simp only [World.size_alloc, World.size_drew] at hz1; (try have y1 : w.heap.size + 1 + 1 + 1 < w1.heap.size := by omega))
        | (go_at_call_of 47 (Value.int .i64 m); refine (of_any _ (by assumption) _).mono ?_; rintro e w2 ⟨rfl, hb2⟩; obtain ⟨hc2, hf2⟩ := bcell hb2; have hz2 := hb2.size; (try simp only [World.size_alloc] at hz2); (try have y2 : w.heap.size + 1 + 1 + 1 < w2.heap.size := by omega); (try have y3 : w1.heap.size < w2.heap.size := by omega))
        | (go_at_call 51; refine (plus_any _ _ (by assumption) (by assumption) _).mono ?_; rintro e w3 ⟨rfl, hb3⟩; obtain ⟨hc3, hf3⟩ := bcell hb3; have hz3 := hb3.size; (try simp only [World.size_alloc] at hz3); (try have y4 : w.heap.size + 1 + 1 + 1 < w3.heap.size := by omega); (try have y5 : w1.heap.size < w3.heap.size := by omega); (try have y6 : w2.heap.size < w3.heap.size := by omega)))
    all_goals (go_wp2_with fail; go_meet)
    all_goals
      refine ⟨_, rfl, ?_, ?_, ?_, ?_, ?_, ?_⟩
      · first | omega | go_size
      · first | (with_reducible exact Blk.new _ _ _) | (with_reducible refine Blk.two (p := .int .i64 0) (q := .int .u64 0) ?_ _ _)
        all_goals repeat' (first | (with_reducible assumption) | (with_reducible exact Blk.new' (by first | rfl | (simp; done))) | (with_reducible refine Blk.alloc ?_ _) | (with_reducible refine Blk.drew ?_) | (with_reducible refine Blk.far ?_ _ (by simp only []; omega)) | (with_reducible refine Blk.kept ?_ (by with_reducible assumption)))
      · repeat' (first | (with_reducible assumption) | (with_reducible exact hS.1) | (with_reducible refine Blk.alloc ?_ _) | (with_reducible refine Blk.drew ?_) | (with_reducible refine Blk.far ?_ _ (by simp only []; omega)) | (with_reducible refine Blk.kept ?_ (by with_reducible assumption)))
      · repeat' (first | (with_reducible assumption) | (with_reducible exact hS1) | (with_reducible refine Blk.alloc ?_ _) | (with_reducible refine Blk.drew ?_) | (with_reducible refine Blk.far ?_ _ (by simp only []; omega)) | (with_reducible refine Blk.kept ?_ (by with_reducible assumption)))
      · repeat' (first | (with_reducible assumption) | (with_reducible exact hS2) | (with_reducible refine Blk.alloc ?_ _) | (with_reducible refine Blk.drew ?_) | (with_reducible refine Blk.far ?_ _ (by simp only []; omega)) | (with_reducible refine Blk.kept ?_ (by with_reducible assumption)))
      · repeat' (first | (with_reducible exact Below.refl _ _) | (with_reducible refine Below.alloc ?_ (by go_size) _) | (with_reducible refine Below.drew ?_) | (with_reducible refine Below.setCell ?_ (by simp only []; omega) _) | (with_reducible refine Below.after ?_ (by with_reducible assumption) (by go_size)))
  case rest =>
    obtain ⟨b, rfl, hb, k1, k2, k3, k4, hbw⟩ := hcut
    have q0 := k1.cell 0
    have q1 := k1.cell 1
    have q4 := k2.cell 4
    have q5 := k2.cell 5
    have q6 := k2.cell 1
    have q30 := k3.cell 0
    have q31 := k3.cell 1
    have q40 := k4.cell 0
    have q41 := k4.cell 1
    have f30 := k3.frozen 0
    have f31 := k3.frozen 1
    have f40 := k4.frozen 0
    have f41 := k4.frozen 1
    simp at q0 q1 q4 q5 q6 q30 q31 q40 q41
    have l3 := k3.lt
    have l4 := k4.lt
    have l2 := k2.lt
    have l1 := k1.lt
    have hS := Hold2.mk' k2 k1
    clear q0 q1 q4 q5 q6
    have hw : IntKind.i64.wrap (i - 2) = i - 2 := IntWalk.i64_in _ (by omega)
    go_wp2
    go_region_held3 (fun w' => Hold2 w.heap.size #[.int .i64 c, .int .i64 i, .int .i64 (hi s), .int .u64 (lo s), .int .i64 l, .int .i64 m] 30 b #[.int .i64 (hi (l + m)), .int .u64 (lo (l + m))] 92 w')
      (first | exact Hold2.drew hS | exact Hold2.kept ‹_› hb3 | exact Hold2.kept ‹_› hb2 | exact Hold2.kept ‹_› hb1 | exact Hold2.far2 ‹_› _ _ (by simp only []; omega) (by simp only []; omega) (by simp only []; omega) (by simp only []; omega))
      (first
        | (go_at_call_of 65 (Value.int .i64 l); refine (times_any _ _ hl1 (by omega) (by omega) _).mono ?_; rintro e w1 ⟨rfl, hb1⟩; obtain ⟨hc1, hf1⟩ := bcell hb1; simp only [World.size_drew] at hc1 hf1; have hz1 := hb1.size; (try simp only [World.size_drew] at hz1); (try have y1 : w.heap.size < w1.heap.size := by omega); (try have y1 : w.heap.size + 1 < w1.heap.size := by omega); (try have y1 : w.heap.size + 1 + 1 < w1.heap.size := by omega))
        | (go_at_call_of 65 (Value.int .i64 m); refine (times_any _ _ hm1 (by omega) (by omega) _).mono ?_; rintro e w3 ⟨rfl, hb3⟩; obtain ⟨hc3, hf3⟩ := bcell hb3; have hz3 := hb3.size; (try simp only [World.size_alloc, World.size_drew] at hz3); (try have y1 : w.heap.size < w3.heap.size := by omega); (try have y1 : w.heap.size + 1 < w3.heap.size := by omega); (try have y1 : w.heap.size + 1 + 1 < w3.heap.size := by omega))
        | (go_at_call 51; refine (plus_any _ _ (by assumption) (by assumption) _).mono ?_; rintro e w2 ⟨rfl, hb2⟩; obtain ⟨hc2, hf2⟩ := bcell hb2; have hz2 := hb2.size; (try simp only [World.size_alloc, World.size_drew] at hz2); (try have y1 : w.heap.size < w2.heap.size := by omega); (try have y1 : w.heap.size + 1 < w2.heap.size := by omega); (try have y1 : w.heap.size + 1 + 1 < w2.heap.size := by omega)))
    all_goals go_wp2
    all_goals
      refine bodyPost_ret (v := .tuple #[hl (l + m + l * (i - 2)), hl (l + m + m * (i - 2))]) (by simp [results, Tryd.results49, go_sem, *]) rfl ⟨rfl, ?_⟩
      have hbw1 := Below.after hbw.drew hb1 (by go_size)
      repeat' (first | (with_reducible refine Below.setCell ?_ (by simp only []; omega) _) | (with_reducible exact hbw1) | (with_reducible refine Below.after ?_ (by with_reducible assumption) (by go_size)))

abbrev vKN (k n : Int) : Value := .agg #[.int .i64 k, .int .i64 n, .string ⟨#[]⟩, .slice none 0 0, .slice none 0 0]
def kd (i : Int) : Int := if i = 0 then 1 else 3
def nn (i n : Int) : Int := if i = 0 then 0 else n
abbrev vInt (n : Int) : Value := .agg #[.int .i64 3, .int .i64 n, .string ⟨#[]⟩, .slice none 0 0, .slice none 0 0]
abbrev vNull : Value := .agg #[.int .i64 1, .int .i64 0, .string ⟨#[]⟩, .slice none 0 0, .slice none 0 0]
abbrev vZero : Value := .agg #[.int .i64 0, .int .i64 0, .string ⟨#[]⟩, .slice none 0 0, .slice none 0 0]

set_option maxHeartbeats 400000 in
theorem in_any (n : Int) (w : World) :
    Calls Tryd.prog 71 #[.int .i64 n] w fun e w' => e = .returned (vInt n) ∧ Below w.heap.size w w' := by
  go_enter Tryd.func71, Tryd.ntmps71
  go_wp2
  exact bodyPost_ret (v := vInt n) (by simp [results, Tryd.results71, go_sem]) rfl ⟨rfl, by go_grown⟩

set_option maxHeartbeats 400000 in
theorem count_any (r : R) (hr : r.Num) (w : World) :
    Calls Tryd.prog 66 #[rv r] w fun e w' => e = .returned (.tuple #[vInt r.c, .int .i64 0]) ∧ Below w.heap.size w w' := by
  obtain ⟨c, i, s, l, m⟩ := r
  have c0 := hr.c0
  have c1 := hr.c1
  simp only at c0 c1
  simp only [rv]
  clear hr
  go_enter Tryd.func66, Tryd.ntmps66
  go_wp2_with (go_at_call 71; refine (in_any _ _).mono ?_; rintro e w1 ⟨rfl, hb⟩; obtain ⟨hc, hf⟩ := bcell hb)
  refine bodyPost_ret (v := .tuple #[vInt c, .int .i64 0]) (by simp [results, Tryd.results66, go_sem, *]) rfl ⟨rfl, ?_⟩
  repeat' (first | (with_reducible exact Below.refl _ _) | (with_reducible refine Below.alloc ?_ (by go_size) _) | (with_reducible refine Below.drew ?_) | (with_reducible refine Below.set ?_ (by omega) _) | (with_reducible refine Below.after ?_ (by with_reducible assumption) (by go_size)))

set_option maxHeartbeats 400000 in
theorem end_any (r : R) (n : Int) (w : World) :
    Calls Tryd.prog 69 #[rv r, .int .i64 n] w fun e w' => e = .returned (.tuple #[vKN (kd r.i) (nn r.i n), .int .i64 0]) ∧ Below w.heap.size w w' := by
  obtain ⟨c, i, s, l, m⟩ := r
  simp only [rv]
  by_cases hi : i = 0
  · have hd : (i == 0) = true := by simp [hi]
    have e1 : kd i = 1 := by simp [kd, hi]
    have e2 : nn i n = 0 := by simp [nn, hi]
    clear hi
    go_enter Tryd.func69, Tryd.ntmps69
    go_wp2
    refine bodyPost_ret (v := .tuple #[vNull, .int .i64 0]) (by simp [results, Tryd.results69, go_sem, *]) rfl ⟨by rw [e1, e2], by go_grown⟩
  · have hd : (i == 0) = false := by simp [hi]
    have e1 : kd i = 3 := by simp [kd, hi]
    have e2 : nn i n = n := by simp [nn, hi]
    clear hi
    go_enter Tryd.func69, Tryd.ntmps69
    go_wp2_with (go_at_call 71; refine (in_any _ _).mono ?_; rintro e w1 ⟨rfl, hb⟩; obtain ⟨hc, hf⟩ := bcell hb)
    refine bodyPost_ret (v := .tuple #[vInt n, .int .i64 0]) (by simp [results, Tryd.results69, go_sem, *]) rfl ⟨by rw [e1, e2], ?_⟩
    repeat' (first | (with_reducible exact Below.refl _ _) | (with_reducible refine Below.alloc ?_ (by go_size) _) | (with_reducible refine Below.drew ?_) | (with_reducible refine Below.set ?_ (by omega) _) | (with_reducible refine Below.after ?_ (by with_reducible assumption) (by go_size)))

set_option maxHeartbeats 400000 in
theorem simple1_any (r : R) (w : World) :
    Calls Tryd.prog 68 #[rv r] w fun e w' => e = .returned (.tuple #[vKN (kd r.i) (nn r.i r.l), .int .i64 0]) ∧ Below w.heap.size w w' := by
  have he := end_any r r.l
  generalize kd r.i = a at *
  generalize nn r.i r.l = b at *
  obtain ⟨c, i, s, l, m⟩ := r
  simp only [rv] at *
  have he := Lib.hid he
  go_enter Tryd.func68, Tryd.ntmps68
  go_wp2_with fail
  refine (he.out _).mono ?_; rintro e w1 ⟨rfl, hb⟩; obtain ⟨hc, hf⟩ := bcell hb
  go_wp2
  refine bodyPost_ret (v := .tuple #[vKN a b, .int .i64 0]) (by simp [results, Tryd.results68, go_sem, *]) rfl ⟨rfl, ?_⟩
  repeat' (first | (with_reducible exact Below.refl _ _) | (with_reducible refine Below.alloc ?_ (by go_size) _) | (with_reducible refine Below.drew ?_) | (with_reducible refine Below.set ?_ (by omega) _) | (with_reducible refine Below.after ?_ (by with_reducible assumption) (by go_size)))

set_option maxHeartbeats 400000 in
theorem simple2_any (r : R) (w : World) :
    Calls Tryd.prog 70 #[rv r] w fun e w' => e = .returned (.tuple #[vKN (kd r.i) (nn r.i r.m), .int .i64 0]) ∧ Below w.heap.size w w' := by
  have he := end_any r r.m
  generalize kd r.i = a at *
  generalize nn r.i r.m = b at *
  obtain ⟨c, i, s, l, m⟩ := r
  simp only [rv] at *
  have he := Lib.hid he
  go_enter Tryd.func70, Tryd.ntmps70
  go_wp2_with fail
  refine (he.out _).mono ?_; rintro e w1 ⟨rfl, hb⟩; obtain ⟨hc, hf⟩ := bcell hb
  go_wp2
  refine bodyPost_ret (v := .tuple #[vKN a b, .int .i64 0]) (by simp [results, Tryd.results70, go_sem, *]) rfl ⟨rfl, ?_⟩
  repeat' (first | (with_reducible exact Below.refl _ _) | (with_reducible refine Below.alloc ?_ (by go_size) _) | (with_reducible refine Below.drew ?_) | (with_reducible refine Below.set ?_ (by omega) _) | (with_reducible refine Below.after ?_ (by with_reducible assumption) (by go_size)))

set_option maxHeartbeats 400000 in
theorem sums_yes (r : R) (h : I64 r.s) (w : World) :
    Calls Tryd.prog 67 #[rv r] w fun e w' => e = .returned (.tuple #[vInt r.s, .int .i64 0]) ∧ Below w.heap.size w w' := by
  have he := total_any r
  have hg := fits_any r.s
  have hl := lo_back h
  have hd : decide (I64 r.s) = true := by simp [h]
  rw [hd] at hg
  obtain ⟨c, i, s, l, m⟩ := r
  simp only [rv] at *
  generalize hi s = a at *
  generalize lo s = b at *
  clear h hd
  have he := Lib.hid he
  have hg := Lib.hid hg
  go_enter Tryd.func67, Tryd.ntmps67
  go_wp2_with fail
  refine (he.out _).mono ?_; rintro e w1 ⟨rfl, hb⟩; obtain ⟨hc, hf⟩ := bcell hb
  have z1 := hb.size
  simp only [World.size_alloc] at z1
  have y1 : w.heap.size < w1.heap.size := by omega
  have y2 : w.heap.size + 1 < w1.heap.size := by omega
  go_wp2_with fail
  refine (hg.out _).mono ?_; rintro e w2 ⟨rfl, hb2⟩; obtain ⟨hc2, hf2⟩ := bcell hb2
  have z2 := hb2.size
  have y3 : w.heap.size < w2.heap.size := by omega
  have y4 : w.heap.size + 1 < w2.heap.size := by omega
  go_wp2_with fail
  refine (in_any _ _).mono ?_; rintro e w3 ⟨rfl, hb3⟩; obtain ⟨hc3, hf3⟩ := bcell hb3
  go_wp2
  refine bodyPost_ret (v := .tuple #[vInt s, .int .i64 0]) (by simp [results, Tryd.results67, go_sem, *]) rfl ⟨rfl, ?_⟩
  repeat' (first | (with_reducible exact Below.refl _ _) | (with_reducible refine Below.alloc ?_ (by go_size) _) | (with_reducible refine Below.drew ?_) | (with_reducible refine Below.set ?_ (by omega) _) | (with_reducible refine Below.after ?_ (by with_reducible assumption) (by go_size)))
set_option maxHeartbeats 400000 in
theorem sums_no (r : R) (h : ¬ I64 r.s) (w : World) :
    Calls Tryd.prog 67 #[rv r] w fun e w' => e = .returned (.tuple #[vZero, .int .i64 5]) ∧ Below w.heap.size w w' := by
  have he := total_any r
  have hg := fits_any r.s
  have hd : decide (I64 r.s) = false := by simp [h]
  rw [hd] at hg
  obtain ⟨c, i, s, l, m⟩ := r
  simp only [rv] at *
  generalize hi s = a at *
  generalize lo s = b at *
  clear h hd
  have he := Lib.hid he
  have hg := Lib.hid hg
  go_enter Tryd.func67, Tryd.ntmps67
  go_wp2_with fail
  refine (he.out _).mono ?_; rintro e w1 ⟨rfl, hb⟩; obtain ⟨hc, hf⟩ := bcell hb
  have z1 := hb.size
  simp only [World.size_alloc] at z1
  have y1 : w.heap.size < w1.heap.size := by omega
  have y2 : w.heap.size + 1 < w1.heap.size := by omega
  go_wp2_with fail
  refine (hg.out _).mono ?_; rintro e w2 ⟨rfl, hb2⟩; obtain ⟨hc2, hf2⟩ := bcell hb2
  have z2 := hb2.size
  have y3 : w.heap.size < w2.heap.size := by omega
  have y4 : w.heap.size + 1 < w2.heap.size := by omega
  go_wp2
  refine bodyPost_ret (v := .tuple #[vZero, .int .i64 5]) (by simp [results, Tryd.results67, go_sem, *]) rfl ⟨rfl, ?_⟩
  repeat' (first | (with_reducible exact Below.refl _ _) | (with_reducible refine Below.alloc ?_ (by go_size) _) | (with_reducible refine Below.drew ?_) | (with_reducible refine Below.set ?_ (by omega) _) | (with_reducible refine Below.after ?_ (by with_reducible assumption) (by go_size)))
end Go.Proofs.YtmleipmilmeclaaDoor
