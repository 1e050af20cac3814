/- Walks: Kind, and the row of wakes. -/
import Derived.Test.YtmleipmilmeclaaDoorXWe
import Derived.Test.YtmleipmilmeclaaDoorXWh
namespace Go.Proofs.YtmleipmilmeclaaDoor
open Go.RowKit
attribute [local go_sem ↓] Go.wp_at_zero Go.wp_at_succ

set_option maxRecDepth 100000 in
set_option maxHeartbeats 2000000 in
theorem kind_sum (w : World) :
    Calls Tryd.prog 28 #[sSum] w fun e w' => e = .returned (.tuple #[.int .i64 2, .int .i64 0]) ∧ Below w.heap.size w w' := by
  go_enter Tryd.func28, Tryd.ntmps28
  go_wp2_with fail
  refine (kinds_any _).mono ?_; rintro e w1 ⟨g, cap, rfl, hcap, ⟨hg, hk⟩, hge, hb1⟩; have k0 := hk 0 _ rfl; have k1 := hk 1 _ rfl; have k2 := hk 2 _ rfl; have k3 := hk 3 _ rfl; have k4 := hk 4 _ rfl; have k5 := hk 5 _ rfl; clear hk; obtain ⟨hc1, hf1⟩ := bcell hb1
  go_wp2_with fail
  go_rounds 3
  go_ret2
  refine ⟨rfl, ?_⟩
  repeat' (first | (with_reducible exact Below.refl _ _) | (with_reducible refine Below.alloc ?_ (by go_size) _) | (with_reducible refine Below.drew ?_) | (with_reducible refine Below.set ?_ (by omega) _) | (with_reducible refine Below.after ?_ (by with_reducible assumption) (by go_size)))

set_option maxHeartbeats 1000000 in
theorem row_any (n : Int) (hn : I64 n) (w : World) :
    Calls Tryd.prog 25 #[.int .i64 n] w fun e w' => e = .returned (rv (R.one n)) ∧ Below w.heap.size w w' := by
  have h1 := Lib.hid (one_yes (.slice none 0 0) (.slice none 0 0) n hn none 0 0 rfl none 0 0 rfl)
  go_enter Tryd.func25, Tryd.ntmps25
  go_wp2_with fail
  refine (h1.out _).mono ?_; rintro e w1 ⟨rfl, hb1⟩; obtain ⟨hc1, hf1⟩ := bcell hb1
  simp only [World.size_alloc] at hc1 hf1
  go_wp2_with fail
  refine bodyPost_ret (v := rv (R.one n)) (by simp [results, Tryd.results25, go_sem, *]) rfl ⟨rfl, ?_⟩
  repeat' (first | (with_reducible exact Below.refl _ _) | (with_reducible refine Below.alloc ?_ (by go_size) _) | (with_reducible refine Below.drew ?_) | (with_reducible refine Below.set ?_ (by omega) _) | (with_reducible refine Below.after ?_ (by with_reducible assumption) (by go_size)))

set_option maxHeartbeats 1000000 in
theorem join_over (L : List R) (n b p : Nat) (hlen : L.length = n) (hL : ∀ r ∈ L, R.Ok r) (w : World) (hn : n ≤ 1000) (hR : Reds w b L) (hp : p < L.length) (hC : ∀ j, j ≤ p → (foldR (L.take j)).Ok) (hO : (foldR (L.take p)).c + L[p].c > 1073741824) :
    Calls Tryd.prog 8 #[.slice (some ⟨b, 0, none⟩) n n] w fun e w' => e = .returned (.tuple #[.agg zR, .int .i64 5]) ∧ Below w.heap.size w w' := by
  obtain ⟨hb0, hR⟩ := hR
  have HR := Lib.hid hR
  have HL := Lib.hid hL
  have Hlen := Lib.hid hlen
  have HC := Lib.hid hC
  have HO := Lib.hid hO
  have hpn : p < n := by omega
  have hp := Lib.hid hp
  clear hR hL hlen hC hO
  go_enter Tryd.func8, Tryd.ntmps8
  go_wp2
  go_step3
  go_wp2
  go_step3
  go_wp2
  go_loopw [13, 4] (fun i e wr => JoinRel1 w n i e wr) (fun i _ _ => n - (intOf i).toNat)
  case atStart => exact ⟨0, by omega, rfl, rfl, by go_grown, (Blk.new w _ _).alloc _, Blk.new' (by simp)⟩
  case round =>
    obtain ⟨k, hk, rfl, rfl, hbw, k1, k2⟩ := hrel
    by_cases hlt : k < n
    · have hlt' : k < L.length := by rw [Hlen.out]; exact hlt
      obtain ⟨a0, a1, a2, a3, a4, a5⟩ := (HR.out k hlt').kept hbw hb0
      have hok := HL.out L[k] (List.getElem_mem hlt')
      generalize L[k] = r at *
      have hck := Lib.hid (check_ok r hok)
      obtain ⟨c, i, s, l, m⟩ := r
      simp only [rv] at *
      clear hok hlt'
      go_wp2_with fail
      refine (hck.out _).mono ?_; rintro e w1 ⟨rfl, hb1⟩; obtain ⟨hc1, hf1⟩ := bcell hb1
      go_wp2_with fail
      go_roundw
      case rel => exact ⟨k + 1, by omega, by go_num, rfl, Below.after (hbw.alloc (by have := hbw.size; omega) _) hb1 (by have := hbw.size; go_size), (k1.alloc _).kept hb1, (k2.alloc _).kept hb1⟩
      case measure => simp [intOf]; omega
    · have hkn : k = n := by omega
      subst hkn
      clear hlt hk
      go_wp2_with fail
      obtain ⟨wo, rfl⟩ : ∃ wo, wo = wr := ⟨_, rfl⟩
      go_loopw [28] (fun i wr => JoinRel2 w L p i wr) (fun i _ => k - (intOf i).toNat)
      case atStart => exact ⟨0, by omega, rfl, hbw, k1, by rw [show rc (foldR (L.take 0)) = zR from rv_zero]; exact k2⟩
      case round =>
        obtain ⟨j, hj, rfl, hbw', k1', k2'⟩ := hrel
        have z0 := hbw'.size
        have l1 := k1'.lt
        have l2 := k2'.lt
        have hjk : j < k := by omega
        have hlt' : j < L.length := by rw [Hlen.out]; exact hjk
        obtain ⟨a0, a1, a2, a3, a4, a5⟩ := (HR.out j hlt').kept hbw' hb0
        have hok := HL.out L[j] (List.getElem_mem hlt')
        have hq := HC.out j hj
        by_cases hlt : j < p
        · have hs := Lib.hid (foldR_snoc L j hlt')
          have hq1 := HC.out (j + 1) (by omega)
          rw [hs.out] at hq1
          have hcc := hq1.c1
          rw [R.both_c] at hcc
          have hbt := both_any (foldR (L.take j)) L[j] hq.toNum hok.toNum (by
            have := hq.sum_bd; have := hok.sum_bd; have := hq.i1; have := hq.c1; have := hok.i1; have := hok.c1
            unfold S120; omega)
          generalize L[j] = r at *
          generalize foldR (L.take j) = q at *
          obtain ⟨c, i, s, l, m⟩ := r
          obtain ⟨c', i', s', l', m'⟩ := q
          have m0 := hok.c0
          have m1 := hok.c1
          have m2 := hq.c0
          have m3 := hq.c1
          have q0 := k2'.cell 0
          have q1 := k2'.cell 1
          have q2 := k2'.cell 2
          have q3 := k2'.cell 3
          have q4 := k2'.cell 4
          have q5 := k2'.cell 5
          have f0 := k2'.frozen 0
          have f1 := k2'.frozen 1
          have f2 := k2'.frozen 2
          have f3 := k2'.frozen 3
          have f4 := k2'.frozen 4
          have f5 := k2'.frozen 5
          simp only [rv, rc] at *
          simp at q0 q1 q2 q3 q4 q5
          have hbt := Lib.hid hbt
          clear hok hlt' hq hq1
          go_wp2_with fail
          refine (hbt.out _).mono ?_; rintro e w1 ⟨rfl, hb1⟩; obtain ⟨hc1, hf1⟩ := bcell hb1
          have z1 := hb1.size
          simp only [World.size_alloc] at z1
          go_wp2_with fail
          go_roundw
          case rel =>
            refine ⟨j + 1, by omega, by go_num, ?_, ?_, ?_⟩
            · repeat' (first | (with_reducible exact hbw') | (with_reducible exact Below.refl _ _) | (with_reducible refine Below.alloc ?_ (by go_size) _) | (with_reducible refine Below.drew ?_) | (with_reducible refine Below.set ?_ (by omega) _) | (with_reducible refine Below.after ?_ (by with_reducible assumption) (by go_size)))
            · repeat' (first | (with_reducible exact k1') | (with_reducible refine Blk.off ?_ _ (by omega)) | (with_reducible refine Blk.alloc ?_ _) | (with_reducible refine Blk.kept ?_ hb1))
            · rw [hs.out]
              exact Blk.six ((k2'.alloc _).kept hb1) _ _ _ _ _ _
          case measure => simp [intOf]; omega
        · have hjp : j = p := by omega
          subst hjp
          have hO := HO.out
          generalize L[j] = r at *
          generalize foldR (L.take j) = q at *
          obtain ⟨c, i, s, l, m⟩ := r
          obtain ⟨c', i', s', l', m'⟩ := q
          have m0 := hok.c0
          have m1 := hok.c1
          have m2 := hq.c0
          have m3 := hq.c1
          have q0 := k2'.cell 0
          have p0 := k1'.cell 0
          have p1 := k1'.cell 1
          have p2 := k1'.cell 2
          have p3 := k1'.cell 3
          have p4 := k1'.cell 4
          have p5 := k1'.cell 5
          have f0 := k1'.frozen 0
          have f1 := k1'.frozen 1
          have f2 := k1'.frozen 2
          have f3 := k1'.frozen 3
          have f4 := k1'.frozen 4
          have f5 := k1'.frozen 5
          simp only [rc] at *
          simp at q0 p0 p1 p2 p3 p4 p5
          clear hok hlt' hq hlt hj
          go_wp2_with fail
          try rw [Exit.noGoto_ret]
          refine bodyPost_ret (v := .tuple #[.agg zR, .int .i64 5]) (by simp [results, Tryd.results8, go_sem, *]) rfl ⟨rfl, ?_⟩
          repeat' (first | (with_reducible exact hbw') | (with_reducible exact Below.refl _ _) | (with_reducible refine Below.alloc ?_ (by go_size) _) | (with_reducible refine Below.drew ?_) | (with_reducible refine Below.set ?_ (by omega) _) | (with_reducible refine Below.after ?_ (by with_reducible assumption) (by go_size)))
end Go.Proofs.YtmleipmilmeclaaDoor

/- Walks: wakes. -/
namespace Go.Proofs.YtmleipmilmeclaaDoor
open Go.RowKit
attribute [local go_sem ↓] Go.wp_at_zero Go.wp_at_succ

def R3 : R := ⟨3, 2, 2, -1, 3⟩
def RM : R := ⟨1073741824, 0, 0, 0, 0⟩
def R2 : R := ⟨2, 2, 18446744073709551614, 9223372036854775807, 9223372036854775807⟩
theorem i64m1 : I64 (-1) := by unfold I64; omega
theorem i64p3 : I64 3 := by unfold I64; omega
theorem i64mx : I64 9223372036854775807 := by unfold I64; omega
theorem R3_ok : R3.Ok := by
  refine ⟨⟨?_, ?_, ?_, ?_, ?_, ?_, ?_⟩, ?_⟩ <;> simp [R3, I64, S120, R.fine]
theorem RM_ok : RM.Ok := by
  refine ⟨⟨?_, ?_, ?_, ?_, ?_, ?_, ?_⟩, ?_⟩ <;> simp [RM, I64, S120, R.fine]
theorem R2_ok : R2.Ok := by
  refine ⟨⟨?_, ?_, ?_, ?_, ?_, ?_, ?_⟩, ?_⟩ <;> simp [R2, I64, S120, R.fine]
theorem R3_is : foldR [R.one (-1), R.none, R.one 3] = R3 := by
  simp [foldR, R.both, R.zero, R.one, R.none, R3]; decide
theorem R2_is : foldR [R.one 9223372036854775807, R.one 9223372036854775807] = R2 := by
  simp [foldR, R.both, R.zero, R.one, R2]

theorem reds3 {w : World} {b : Nat} {T : TypeId} {r t u : R} (h : Blk w b #[.int .i64 r.c, .int .i64 r.i, .int .i64 (hi r.s), .int .u64 (lo r.s), .int .i64 r.l, .int .i64 r.m, .int .i64 t.c, .int .i64 t.i, .int .i64 (hi t.s), .int .u64 (lo t.s), .int .i64 t.l, .int .i64 t.m, .int .i64 u.c, .int .i64 u.i, .int .i64 (hi u.s), .int .u64 (lo u.s), .int .i64 u.l, .int .i64 u.m] T) : Reds w b [r, t, u] := by
  refine ⟨h.lt, fun k hk => ?_⟩
  have hc := h.cell
  match k, hk with
  | 0, _ => exact ⟨hc 0, hc 1, hc 2, hc 3, hc 4, hc 5⟩
  | 1, _ => exact ⟨hc 6, hc 7, hc 8, hc 9, hc 10, hc 11⟩
  | 2, _ => exact ⟨hc 12, hc 13, hc 14, hc 15, hc 16, hc 17⟩

theorem call_join3 (w : World) (b : Nat) (h : Reds w b [R.one (-1), R.none, R.one 3]) :
    Calls Tryd.prog 8 #[.slice (some ⟨b, 0, none⟩) 3 3] w fun e w' => e = .returned (.tuple #[rv R3, .int .i64 0]) ∧ Below w.heap.size w w' := by
  have := join_any [R.one (-1), R.none, R.one 3] 3 b rfl (by intro x hx; simp at hx; rcases hx with rfl | rfl | rfl <;> first | exact R.Ok.one i64m1 | exact R.Ok.none | exact R.Ok.one i64p3) w (by omega) h (by
    intro j
    match j with
    | 0 | 1 | 2 => simp [foldR, R.both, R.zero, R.one, R.none]
    | j + 3 => simp [foldR, R.both, R.zero, R.one, R.none])
  rwa [R3_is] at this
theorem call_join2 (w : World) (b : Nat) (h : Reds w b [R.one 9223372036854775807, R.one 9223372036854775807]) :
    Calls Tryd.prog 8 #[.slice (some ⟨b, 0, none⟩) 2 2] w fun e w' => e = .returned (.tuple #[rv R2, .int .i64 0]) ∧ Below w.heap.size w w' := by
  have := join_any [R.one 9223372036854775807, R.one 9223372036854775807] 2 b rfl (by intro x hx; simp at hx; subst hx; exact R.Ok.one i64mx) w (by omega) h (by
    intro j
    match j with
    | 0 | 1 => simp [foldR, R.both, R.zero, R.one]
    | j + 2 => simp [foldR, R.both, R.zero, R.one])
  rwa [R2_is] at this
theorem call_joinM (w : World) (b : Nat) (h : Reds w b [R3, RM]) :
    Calls Tryd.prog 8 #[.slice (some ⟨b, 0, none⟩) 2 2] w fun e w' => e = .returned (.tuple #[.agg zR, .int .i64 5]) ∧ Below w.heap.size w w' := by
  refine join_over [R3, RM] 2 b 1 rfl (by intro x hx; simp at hx; rcases hx with rfl | rfl <;> first | exact R3_ok | exact RM_ok) w (by omega) h (by simp) ?_ ?_
  · intro j hj
    match j, hj with
    | 0, _ => exact R.Ok.zero
    | 1, _ => rw [show foldR (List.take 1 [R3, RM]) = R3 from by simp [foldR, R.both, R.zero, R3]]; exact R3_ok
  · simp [foldR, R.both, R.zero, R3, RM]

theorem hi5 : hi 5 = 0 := by unfold hi; omega
theorem lo5 : lo 5 = 5 := by unfold lo; omega
theorem hi2 : hi 2 = 0 := by unfold hi; omega
theorem lo2 : lo 2 = 2 := by unfold lo; omega
theorem check_wrong (w : World) :
    Calls Tryd.prog 27 #[.agg #[.int .i64 1, .int .i64 1, .int .i64 0, .int .u64 5, .int .i64 4, .int .i64 5]] w fun e w' => e = .returned (.int .i64 230) ∧ Below w.heap.size w w' := by
  have h := check_any ⟨1, 1, 5, 4, 5⟩ (by refine ⟨?_, ?_, ?_, ?_, ?_, ?_, ?_⟩ <;> simp [I64, S120]) w
  rw [if_neg (by simp [R.fine])] at h
  have e : rv ⟨1, 1, 5, 4, 5⟩ = .agg #[.int .i64 1, .int .i64 1, .int .i64 0, .int .u64 5, .int .i64 4, .int .i64 5] := by simp [hi5, lo5]
  rw [e] at h
  exact h

theorem redsM {w : World} {b : Nat} {T : TypeId} (h : Blk w b #[.int .i64 R3.c, .int .i64 R3.i, .int .i64 (hi R3.s), .int .u64 (lo R3.s), .int .i64 R3.l, .int .i64 R3.m, .int .i64 1073741824, .int .i64 0, .int .i64 0, .int .u64 0, .int .i64 0, .int .i64 0] T) : Reds w b [R3, RM] := by
  refine reds2 (T := T) ?_
  have e1 : hi RM.s = 0 := hi_zero
  have e2 : lo RM.s = 0 := lo_zero
  rw [e1, e2]; exact h

set_option maxRecDepth 100000 in
set_option maxHeartbeats 4000000 in
theorem wakes_any (w : World) :
    Calls Tryd.prog 6 #[] w fun e w' => e = .returned (.bool true) ∧ Below w.heap.size w w' := by
  go_enter Tryd.func6, Tryd.ntmps6
  go_wp2_with fail
  refine (row_any _ i64m1 _).mono ?_; rintro e w1 ⟨rfl, hb1⟩
  go_wp2_with fail
  refine (one_no _ _ 9 none 0 0 rfl none 0 0 rfl _).mono ?_; rintro e w2 ⟨rfl, hb2⟩
  go_wp2_with fail
  refine (row_any _ i64p3 _).mono ?_; rintro e w3 ⟨rfl, hb3⟩
  go_wp2_with fail
  refine (call_join3 _ _ (reds3 (Blk.new _ _ _))).mono ?_; rintro e w4 ⟨rfl, hb4⟩
  go_wp2_with fail
  have k := (Blk.new w4 (rc R3) 30).alloc (.cells #[.int .i64 R3.c, .int .i64 R3.i, .int .i64 (hi R3.s), .int .u64 (lo R3.s), .int .i64 R3.l, .int .i64 R3.m, .int .i64 1073741824, .int .i64 0, .int .i64 0, .int .u64 0, .int .i64 0, .int .i64 0] 30)
  refine (call_joinM _ _ (redsM (Blk.new' (by simp)))).mono ?_; rintro e w5 ⟨rfl, hb5⟩
  have k := k.kept hb5
  have c0 := k.cell 0
  have c1 := k.cell 1
  have c2 := k.cell 2
  have c3 := k.cell 3
  have c4 := k.cell 4
  have c5 := k.cell 5
  have l := k.lt
  simp only [rc] at *
  simp at c0 c1 c2 c3 c4 c5
  have k := k.alloc (.cells zR 30)
  go_wp2_with fail
  refine (tell_sum R3 R3_ok (by simp [R3, I64]) _).mono ?_; rintro e w6 ⟨rfl, hb6⟩
  have k := k.kept hb6
  have v := Blk.new w6 #[.int .i64 3, .int .i64 R3.s, .string ⟨#[]⟩, .slice none 0 0, .slice none 0 0] 39
  have k := k.alloc (.cells #[.int .i64 3, .int .i64 R3.s, .string ⟨#[]⟩, .slice none 0 0, .slice none 0 0] 39)
  go_wp2_with fail
  refine (row_any _ i64mx _).mono ?_; rintro e w7 ⟨rfl, hb7⟩
  have k := k.kept hb7
  have v := v.kept hb7
  go_wp2_with fail
  refine (row_any _ i64mx _).mono ?_; rintro e w8 ⟨rfl, hb8⟩
  have k := k.kept hb8
  have v := v.kept hb8
  go_wp2_with fail
  refine (call_join2 _ _ (reds2 (Blk.new _ _ _))).mono ?_; rintro e w9 ⟨rfl, hb9⟩
  have k := (k.alloc _).kept hb9
  have v := (v.alloc _).kept hb9
  have k := k.alloc (.cells (rc R2) 30)
  have v := v.alloc (.cells (rc R2) 30)
  go_wp2_with fail
  refine (tell_over R2 R2_ok (by simp [R2, I64]) _).mono ?_; rintro e w10 ⟨rfl, hb10⟩
  have k := k.kept hb10
  have v := v.kept hb10
  have k := k.alloc (.cells #[.int .i64 0, .int .i64 0, .string ⟨#[]⟩, .slice none 0 0, .slice none 0 0] 39)
  have v := v.alloc (.cells #[.int .i64 0, .int .i64 0, .string ⟨#[]⟩, .slice none 0 0, .slice none 0 0] 39)
  go_wp2_with fail
  refine (check_wrong _).mono ?_; rintro e w11 ⟨rfl, hb11⟩
  have k := k.kept hb11
  have v := v.kept hb11
  go_wp2_with fail
  refine (kind_sum _).mono ?_; rintro e w12 ⟨rfl, hb12⟩
  have k := k.kept hb12
  have v := v.kept hb12
  have c0 := k.cell 0
  have c1 := k.cell 1
  have c2 := k.cell 2
  have c3 := k.cell 3
  have c4 := k.cell 4
  have c5 := k.cell 5
  have d1 := v.cell 1
  simp [R3, hi2, lo2] at c0 c1 c2 c3 c4 c5 d1
  have q := eql30
  go_wp2_with fail
  go_ret
  refine ⟨rfl, ?_⟩
  have z1 := hb1.size
  (try simp only [World.size_alloc] at z1)
  have z2 := hb2.size
  (try simp only [World.size_alloc] at z2)
  have z3 := hb3.size
  (try simp only [World.size_alloc] at z3)
  have z4 := hb4.size
  (try simp only [World.size_alloc] at z4)
  have z5 := hb5.size
  (try simp only [World.size_alloc] at z5)
  have z6 := hb6.size
  (try simp only [World.size_alloc] at z6)
  have z7 := hb7.size
  (try simp only [World.size_alloc] at z7)
  have z8 := hb8.size
  (try simp only [World.size_alloc] at z8)
  have z9 := hb9.size
  (try simp only [World.size_alloc] at z9)
  have z10 := hb10.size
  (try simp only [World.size_alloc] at z10)
  have z11 := hb11.size
  (try simp only [World.size_alloc] at z11)
  have z12 := hb12.size
  (try simp only [World.size_alloc] at z12)
  repeat' (first | (with_reducible exact Below.refl _ _) | (with_reducible refine Below.alloc ?_ (by go_size) _) | (with_reducible refine Below.drew ?_) | (with_reducible refine Below.set ?_ (by omega) _) | (with_reducible refine Below.after ?_ (by with_reducible assumption) (by go_size)))
end Go.Proofs.YtmleipmilmeclaaDoor
