/- Walks: two reductions made one. -/
import Derived.Test.YtmleipmilmeclaaDoorXWb
namespace Go.Proofs.YtmleipmilmeclaaDoor
open Go.RowKit
attribute [local go_sem ↓] Go.wp_at_zero Go.wp_at_succ

set_option maxHeartbeats 1000000 in
theorem both_none (r t : R) (hr : r.Num) (ht : t.Num) (h0 : t.i = 0) (w : World) :
    Calls Tryd.prog 29 #[rv r, rv t] w fun e w' => e = .returned (rv (r.both t)) ∧ Below w.heap.size w w' := by
  unfold R.both
  rw [if_pos h0]
  obtain ⟨c, i, s, l, m⟩ := r
  obtain ⟨c', i', s', l', m'⟩ := t
  have a0 := hr.c0; have a1 := hr.c1; have b0 := ht.c0; have b1 := ht.c1
  simp only at *
  clear hr ht
  subst h0
  go_enter Tryd.func29, Tryd.ntmps29
  go_wp2
  refine bodyPost_ret (v := rv ⟨c + c', i, s, l, m⟩) (by simp [results, Tryd.results29, go_sem]) rfl ⟨rfl, by go_grown⟩

set_option maxHeartbeats 1000000 in
theorem both_some (r t : R) (hr : r.Num) (ht : t.Num) (h0 : t.i ≠ 0) (hs : S120 (r.s + t.s)) (w : World) :
    Calls Tryd.prog 29 #[rv r, rv t] w fun e w' => e = .returned (rv (r.both t)) ∧ Below w.heap.size w w' := by
  have hr1 := total_any r
  have ht1 := total_any t
  unfold R.both
  rw [if_neg h0]
  obtain ⟨c, i, s, l, m⟩ := r
  obtain ⟨c', i', s', l', m'⟩ := t
  have a0 := hr.c0; have a1 := hr.c1; have b0 := ht.c0; have b1 := ht.c1
  have a2 := hr.i0; have a3 := hr.i1; have b2 := ht.i0; have b3 := ht.i1
  have s1 := hr.s
  have s2 := ht.s
  simp only at *
  clear hr ht
  have n0 : (i' == 0) = false := by simpa using h0
  have hr1 := Lib.hid hr1
  have ht1 := Lib.hid ht1
  simp only [rv] at *
  by_cases hpos : i > 0
  · rw [if_pos hpos]
    by_cases h1 : l ≤ l'
    · rw [Int.min_eq_left h1]
      by_cases h2 : m < m'
      · rw [Int.max_eq_right (by omega)]
        go_enter Tryd.func29, Tryd.ntmps29
        go_wp2
        go_region
        go_wp2
        have k1 : Blk ((((w.alloc (.cells #[.int .i64 c, .int .i64 i, .int .i64 (hi s), .int .u64 (lo s), .int .i64 l, .int .i64 m] 30)).alloc (.cells #[.int .i64 c', .int .i64 i', .int .i64 (hi s'), .int .u64 (lo s'), .int .i64 l', .int .i64 m'] 30)).alloc (.cells #[.int .i64 0, .int .i64 0, .int .i64 0, .int .u64 0, .int .i64 0, .int .i64 0] 30)).alloc (.cells #[.int .i64 (c + c'), .int .i64 (i + i'), .int .i64 0, .int .u64 0, .int .i64 l, .int .i64 m'] 30)).drew w.heap.size #[.int .i64 c, .int .i64 i, .int .i64 (hi s), .int .u64 (lo s), .int .i64 l, .int .i64 m] 30 := (((Blk.new w #[.int .i64 c, .int .i64 i, .int .i64 (hi s), .int .u64 (lo s), .int .i64 l, .int .i64 m] 30).alloc _).alloc _).alloc _
        have k2 : Blk ((((w.alloc (.cells #[.int .i64 c, .int .i64 i, .int .i64 (hi s), .int .u64 (lo s), .int .i64 l, .int .i64 m] 30)).alloc (.cells #[.int .i64 c', .int .i64 i', .int .i64 (hi s'), .int .u64 (lo s'), .int .i64 l', .int .i64 m'] 30)).alloc (.cells #[.int .i64 0, .int .i64 0, .int .i64 0, .int .u64 0, .int .i64 0, .int .i64 0] 30)).alloc (.cells #[.int .i64 (c + c'), .int .i64 (i + i'), .int .i64 0, .int .u64 0, .int .i64 l, .int .i64 m'] 30)).drew (w.heap.size + 1) #[.int .i64 c', .int .i64 i', .int .i64 (hi s'), .int .u64 (lo s'), .int .i64 l', .int .i64 m'] 30 := ((Blk.new' (w := w.alloc (.cells #[.int .i64 c, .int .i64 i, .int .i64 (hi s), .int .u64 (lo s), .int .i64 l, .int .i64 m] 30)) (cs := #[.int .i64 c', .int .i64 i', .int .i64 (hi s'), .int .u64 (lo s'), .int .i64 l', .int .i64 m']) (T := 30) (n := w.heap.size + 1) (by simp)).alloc _).alloc _
        have k3 : Blk ((((w.alloc (.cells #[.int .i64 c, .int .i64 i, .int .i64 (hi s), .int .u64 (lo s), .int .i64 l, .int .i64 m] 30)).alloc (.cells #[.int .i64 c', .int .i64 i', .int .i64 (hi s'), .int .u64 (lo s'), .int .i64 l', .int .i64 m'] 30)).alloc (.cells #[.int .i64 0, .int .i64 0, .int .i64 0, .int .u64 0, .int .i64 0, .int .i64 0] 30)).alloc (.cells #[.int .i64 (c + c'), .int .i64 (i + i'), .int .i64 0, .int .u64 0, .int .i64 l, .int .i64 m'] 30)).drew (w.heap.size + 1 + 1 + 1) #[.int .i64 (c + c'), .int .i64 (i + i'), .int .i64 0, .int .u64 0, .int .i64 l, .int .i64 m'] 30 := Blk.new' (by simp)
        have hS := Hold3.drew (Hold3.mk' k1 k2 k3)
        go_region_held3 (fun w' => Hold3 w.heap.size #[.int .i64 c, .int .i64 i, .int .i64 (hi s), .int .u64 (lo s), .int .i64 l, .int .i64 m] 30 (w.heap.size + 1) #[.int .i64 c', .int .i64 i', .int .i64 (hi s'), .int .u64 (lo s'), .int .i64 l', .int .i64 m'] 30 (w.heap.size + 1 + 1 + 1) #[.int .i64 (c + c'), .int .i64 (i + i'), .int .i64 0, .int .u64 0, .int .i64 l, .int .i64 m'] 30 w') (first | ((with_reducible refine Hold3.off ?_ _ (by omega) (by omega) (by omega)); (repeat (with_reducible refine Hold3.off ?_ _ (by omega) (by omega) (by omega))); (with_reducible assumption)) | (with_reducible exact Hold3.kept (by assumption) hb4) | (with_reducible exact Hold3.kept (by assumption) hb3) | (with_reducible exact Hold3.kept (by assumption) hb2) | (with_reducible exact Hold3.kept (by assumption) hb1) | (with_reducible exact hS))
          (first
            | (go_at_call_of 48 (Value.agg #[Value.int .i64 c, .int .i64 i, .int .i64 (hi s), .int .u64 (lo s), .int .i64 l, .int .i64 m]); refine (hr1.out _).mono ?_; rintro e w1 ⟨rfl, hb1⟩; obtain ⟨hc1, hf1⟩ := bcell hb1; have z1 := hb1.size; simp only [World.size_drew, World.size_alloc] at hc1 hf1 z1; (have y1 : w.heap.size + 1 + 1 < w1.heap.size := by omega))
            | (go_at_call 48; refine (ht1.out _).mono ?_; rintro e w2 ⟨rfl, hb2⟩; obtain ⟨hc2, hf2⟩ := bcell hb2; have z2 := hb2.size; (have y2 : w.heap.size + 1 + 1 < w2.heap.size := by omega))
            | (go_at_call 51; refine (plus_any _ _ s1 s2 _).mono ?_; rintro e w3 ⟨rfl, hb3⟩; obtain ⟨hc3, hf3⟩ := bcell hb3; have z3 := hb3.size; (have y3 : w.heap.size + 1 + 1 < w3.heap.size := by omega))
            | (go_at_call 46; refine (with_any _ _ _ _ _ _ _ _).mono ?_; rintro e w4 ⟨rfl, hb4⟩; obtain ⟨hc4, hf4⟩ := bcell hb4; have z4 := hb4.size; (have y4 : w.heap.size + 1 + 1 < w4.heap.size := by omega)))
        all_goals go_wp2
        all_goals
          refine bodyPost_ret (v := rv ⟨c + c', i + i', s + s', l, m'⟩) (by simp [results, Tryd.results29, go_sem, *]) rfl ⟨rfl, ?_⟩
          repeat' (first | (with_reducible exact Below.refl _ _) | (with_reducible refine Below.alloc ?_ (by go_size) _) | (with_reducible refine Below.drew ?_) | (with_reducible refine Below.set ?_ (by omega) _) | (with_reducible refine Below.after ?_ (by with_reducible assumption) (by go_size)))

      · rw [Int.max_eq_left (by omega)]
        go_enter Tryd.func29, Tryd.ntmps29
        go_wp2
        go_region
        go_wp2
        have k1 : Blk ((((w.alloc (.cells #[.int .i64 c, .int .i64 i, .int .i64 (hi s), .int .u64 (lo s), .int .i64 l, .int .i64 m] 30)).alloc (.cells #[.int .i64 c', .int .i64 i', .int .i64 (hi s'), .int .u64 (lo s'), .int .i64 l', .int .i64 m'] 30)).alloc (.cells #[.int .i64 0, .int .i64 0, .int .i64 0, .int .u64 0, .int .i64 0, .int .i64 0] 30)).alloc (.cells #[.int .i64 (c + c'), .int .i64 (i + i'), .int .i64 0, .int .u64 0, .int .i64 l, .int .i64 m] 30)).drew w.heap.size #[.int .i64 c, .int .i64 i, .int .i64 (hi s), .int .u64 (lo s), .int .i64 l, .int .i64 m] 30 := (((Blk.new w #[.int .i64 c, .int .i64 i, .int .i64 (hi s), .int .u64 (lo s), .int .i64 l, .int .i64 m] 30).alloc _).alloc _).alloc _
        have k2 : Blk ((((w.alloc (.cells #[.int .i64 c, .int .i64 i, .int .i64 (hi s), .int .u64 (lo s), .int .i64 l, .int .i64 m] 30)).alloc (.cells #[.int .i64 c', .int .i64 i', .int .i64 (hi s'), .int .u64 (lo s'), .int .i64 l', .int .i64 m'] 30)).alloc (.cells #[.int .i64 0, .int .i64 0, .int .i64 0, .int .u64 0, .int .i64 0, .int .i64 0] 30)).alloc (.cells #[.int .i64 (c + c'), .int .i64 (i + i'), .int .i64 0, .int .u64 0, .int .i64 l, .int .i64 m] 30)).drew (w.heap.size + 1) #[.int .i64 c', .int .i64 i', .int .i64 (hi s'), .int .u64 (lo s'), .int .i64 l', .int .i64 m'] 30 := ((Blk.new' (w := w.alloc (.cells #[.int .i64 c, .int .i64 i, .int .i64 (hi s), .int .u64 (lo s), .int .i64 l, .int .i64 m] 30)) (cs := #[.int .i64 c', .int .i64 i', .int .i64 (hi s'), .int .u64 (lo s'), .int .i64 l', .int .i64 m']) (T := 30) (n := w.heap.size + 1) (by simp)).alloc _).alloc _
        have k3 : Blk ((((w.alloc (.cells #[.int .i64 c, .int .i64 i, .int .i64 (hi s), .int .u64 (lo s), .int .i64 l, .int .i64 m] 30)).alloc (.cells #[.int .i64 c', .int .i64 i', .int .i64 (hi s'), .int .u64 (lo s'), .int .i64 l', .int .i64 m'] 30)).alloc (.cells #[.int .i64 0, .int .i64 0, .int .i64 0, .int .u64 0, .int .i64 0, .int .i64 0] 30)).alloc (.cells #[.int .i64 (c + c'), .int .i64 (i + i'), .int .i64 0, .int .u64 0, .int .i64 l, .int .i64 m] 30)).drew (w.heap.size + 1 + 1 + 1) #[.int .i64 (c + c'), .int .i64 (i + i'), .int .i64 0, .int .u64 0, .int .i64 l, .int .i64 m] 30 := Blk.new' (by simp)
        have hS := Hold3.drew (Hold3.mk' k1 k2 k3)
        go_region_held3 (fun w' => Hold3 w.heap.size #[.int .i64 c, .int .i64 i, .int .i64 (hi s), .int .u64 (lo s), .int .i64 l, .int .i64 m] 30 (w.heap.size + 1) #[.int .i64 c', .int .i64 i', .int .i64 (hi s'), .int .u64 (lo s'), .int .i64 l', .int .i64 m'] 30 (w.heap.size + 1 + 1 + 1) #[.int .i64 (c + c'), .int .i64 (i + i'), .int .i64 0, .int .u64 0, .int .i64 l, .int .i64 m] 30 w') (first | ((with_reducible refine Hold3.off ?_ _ (by omega) (by omega) (by omega)); (repeat (with_reducible refine Hold3.off ?_ _ (by omega) (by omega) (by omega))); (with_reducible assumption)) | (with_reducible exact Hold3.kept (by assumption) hb4) | (with_reducible exact Hold3.kept (by assumption) hb3) | (with_reducible exact Hold3.kept (by assumption) hb2) | (with_reducible exact Hold3.kept (by assumption) hb1) | (with_reducible exact hS))
          (first
            | (go_at_call_of 48 (Value.agg #[Value.int .i64 c, .int .i64 i, .int .i64 (hi s), .int .u64 (lo s), .int .i64 l, .int .i64 m]); refine (hr1.out _).mono ?_; rintro e w1 ⟨rfl, hb1⟩; obtain ⟨hc1, hf1⟩ := bcell hb1; have z1 := hb1.size; simp only [World.size_drew, World.size_alloc] at hc1 hf1 z1; (have y1 : w.heap.size + 1 + 1 < w1.heap.size := by omega))
            | (go_at_call 48; refine (ht1.out _).mono ?_; rintro e w2 ⟨rfl, hb2⟩; obtain ⟨hc2, hf2⟩ := bcell hb2; have z2 := hb2.size; (have y2 : w.heap.size + 1 + 1 < w2.heap.size := by omega))
            | (go_at_call 51; refine (plus_any _ _ s1 s2 _).mono ?_; rintro e w3 ⟨rfl, hb3⟩; obtain ⟨hc3, hf3⟩ := bcell hb3; have z3 := hb3.size; (have y3 : w.heap.size + 1 + 1 < w3.heap.size := by omega))
            | (go_at_call 46; refine (with_any _ _ _ _ _ _ _ _).mono ?_; rintro e w4 ⟨rfl, hb4⟩; obtain ⟨hc4, hf4⟩ := bcell hb4; have z4 := hb4.size; (have y4 : w.heap.size + 1 + 1 < w4.heap.size := by omega)))
        all_goals go_wp2
        all_goals
          refine bodyPost_ret (v := rv ⟨c + c', i + i', s + s', l, m⟩) (by simp [results, Tryd.results29, go_sem, *]) rfl ⟨rfl, ?_⟩
          repeat' (first | (with_reducible exact Below.refl _ _) | (with_reducible refine Below.alloc ?_ (by go_size) _) | (with_reducible refine Below.drew ?_) | (with_reducible refine Below.set ?_ (by omega) _) | (with_reducible refine Below.after ?_ (by with_reducible assumption) (by go_size)))

    · rw [Int.min_eq_right (by omega)]
      by_cases h2 : m < m'
      · rw [Int.max_eq_right (by omega)]
        go_enter Tryd.func29, Tryd.ntmps29
        go_wp2
        go_region
        go_wp2
        have k1 : Blk ((((w.alloc (.cells #[.int .i64 c, .int .i64 i, .int .i64 (hi s), .int .u64 (lo s), .int .i64 l, .int .i64 m] 30)).alloc (.cells #[.int .i64 c', .int .i64 i', .int .i64 (hi s'), .int .u64 (lo s'), .int .i64 l', .int .i64 m'] 30)).alloc (.cells #[.int .i64 0, .int .i64 0, .int .i64 0, .int .u64 0, .int .i64 0, .int .i64 0] 30)).alloc (.cells #[.int .i64 (c + c'), .int .i64 (i + i'), .int .i64 0, .int .u64 0, .int .i64 l', .int .i64 m'] 30)).drew w.heap.size #[.int .i64 c, .int .i64 i, .int .i64 (hi s), .int .u64 (lo s), .int .i64 l, .int .i64 m] 30 := (((Blk.new w #[.int .i64 c, .int .i64 i, .int .i64 (hi s), .int .u64 (lo s), .int .i64 l, .int .i64 m] 30).alloc _).alloc _).alloc _
        have k2 : Blk ((((w.alloc (.cells #[.int .i64 c, .int .i64 i, .int .i64 (hi s), .int .u64 (lo s), .int .i64 l, .int .i64 m] 30)).alloc (.cells #[.int .i64 c', .int .i64 i', .int .i64 (hi s'), .int .u64 (lo s'), .int .i64 l', .int .i64 m'] 30)).alloc (.cells #[.int .i64 0, .int .i64 0, .int .i64 0, .int .u64 0, .int .i64 0, .int .i64 0] 30)).alloc (.cells #[.int .i64 (c + c'), .int .i64 (i + i'), .int .i64 0, .int .u64 0, .int .i64 l', .int .i64 m'] 30)).drew (w.heap.size + 1) #[.int .i64 c', .int .i64 i', .int .i64 (hi s'), .int .u64 (lo s'), .int .i64 l', .int .i64 m'] 30 := ((Blk.new' (w := w.alloc (.cells #[.int .i64 c, .int .i64 i, .int .i64 (hi s), .int .u64 (lo s), .int .i64 l, .int .i64 m] 30)) (cs := #[.int .i64 c', .int .i64 i', .int .i64 (hi s'), .int .u64 (lo s'), .int .i64 l', .int .i64 m']) (T := 30) (n := w.heap.size + 1) (by simp)).alloc _).alloc _
        have k3 : Blk ((((w.alloc (.cells #[.int .i64 c, .int .i64 i, .int .i64 (hi s), .int .u64 (lo s), .int .i64 l, .int .i64 m] 30)).alloc (.cells #[.int .i64 c', .int .i64 i', .int .i64 (hi s'), .int .u64 (lo s'), .int .i64 l', .int .i64 m'] 30)).alloc (.cells #[.int .i64 0, .int .i64 0, .int .i64 0, .int .u64 0, .int .i64 0, .int .i64 0] 30)).alloc (.cells #[.int .i64 (c + c'), .int .i64 (i + i'), .int .i64 0, .int .u64 0, .int .i64 l', .int .i64 m'] 30)).drew (w.heap.size + 1 + 1 + 1) #[.int .i64 (c + c'), .int .i64 (i + i'), .int .i64 0, .int .u64 0, .int .i64 l', .int .i64 m'] 30 := Blk.new' (by simp)
        have hS := Hold3.drew (Hold3.mk' k1 k2 k3)
        go_region_held3 (fun w' => Hold3 w.heap.size #[.int .i64 c, .int .i64 i, .int .i64 (hi s), .int .u64 (lo s), .int .i64 l, .int .i64 m] 30 (w.heap.size + 1) #[.int .i64 c', .int .i64 i', .int .i64 (hi s'), .int .u64 (lo s'), .int .i64 l', .int .i64 m'] 30 (w.heap.size + 1 + 1 + 1) #[.int .i64 (c + c'), .int .i64 (i + i'), .int .i64 0, .int .u64 0, .int .i64 l', .int .i64 m'] 30 w') (first | ((with_reducible refine Hold3.off ?_ _ (by omega) (by omega) (by omega)); (repeat (with_reducible refine Hold3.off ?_ _ (by omega) (by omega) (by omega))); (with_reducible assumption)) | (with_reducible exact Hold3.kept (by assumption) hb4) | (with_reducible exact Hold3.kept (by assumption) hb3) | (with_reducible exact Hold3.kept (by assumption) hb2) | (with_reducible exact Hold3.kept (by assumption) hb1) | (with_reducible exact hS))
          (first
            | (go_at_call_of 48 (Value.agg #[Value.int .i64 c, .int .i64 i, .int .i64 (hi s), .int .u64 (lo s), .int .i64 l, .int .i64 m]); refine (hr1.out _).mono ?_; rintro e w1 ⟨rfl, hb1⟩; obtain ⟨hc1, hf1⟩ := bcell hb1; have z1 := hb1.size; simp only [World.size_drew, World.size_alloc] at hc1 hf1 z1; (have y1 : w.heap.size + 1 + 1 < w1.heap.size := by omega))
            | (go_at_call 48; refine (ht1.out _).mono ?_; rintro e w2 ⟨rfl, hb2⟩; obtain ⟨hc2, hf2⟩ := bcell hb2; have z2 := hb2.size; (have y2 : w.heap.size + 1 + 1 < w2.heap.size := by omega))
            | (go_at_call 51; refine (plus_any _ _ s1 s2 _).mono ?_; rintro e w3 ⟨rfl, hb3⟩; obtain ⟨hc3, hf3⟩ := bcell hb3; have z3 := hb3.size; (have y3 : w.heap.size + 1 + 1 < w3.heap.size := by omega))
            | (go_at_call 46; refine (with_any _ _ _ _ _ _ _ _).mono ?_; rintro e w4 ⟨rfl, hb4⟩; obtain ⟨hc4, hf4⟩ := bcell hb4; have z4 := hb4.size; (have y4 : w.heap.size + 1 + 1 < w4.heap.size := by omega)))
        all_goals go_wp2
        all_goals
          refine bodyPost_ret (v := rv ⟨c + c', i + i', s + s', l', m'⟩) (by simp [results, Tryd.results29, go_sem, *]) rfl ⟨rfl, ?_⟩
          repeat' (first | (with_reducible exact Below.refl _ _) | (with_reducible refine Below.alloc ?_ (by go_size) _) | (with_reducible refine Below.drew ?_) | (with_reducible refine Below.set ?_ (by omega) _) | (with_reducible refine Below.after ?_ (by with_reducible assumption) (by go_size)))

      · rw [Int.max_eq_left (by omega)]
        go_enter Tryd.func29, Tryd.ntmps29
        go_wp2
        go_region
        go_wp2
        have k1 : Blk ((((w.alloc (.cells #[.int .i64 c, .int .i64 i, .int .i64 (hi s), .int .u64 (lo s), .int .i64 l, .int .i64 m] 30)).alloc (.cells #[.int .i64 c', .int .i64 i', .int .i64 (hi s'), .int .u64 (lo s'), .int .i64 l', .int .i64 m'] 30)).alloc (.cells #[.int .i64 0, .int .i64 0, .int .i64 0, .int .u64 0, .int .i64 0, .int .i64 0] 30)).alloc (.cells #[.int .i64 (c + c'), .int .i64 (i + i'), .int .i64 0, .int .u64 0, .int .i64 l', .int .i64 m] 30)).drew w.heap.size #[.int .i64 c, .int .i64 i, .int .i64 (hi s), .int .u64 (lo s), .int .i64 l, .int .i64 m] 30 := (((Blk.new w #[.int .i64 c, .int .i64 i, .int .i64 (hi s), .int .u64 (lo s), .int .i64 l, .int .i64 m] 30).alloc _).alloc _).alloc _
        have k2 : Blk ((((w.alloc (.cells #[.int .i64 c, .int .i64 i, .int .i64 (hi s), .int .u64 (lo s), .int .i64 l, .int .i64 m] 30)).alloc (.cells #[.int .i64 c', .int .i64 i', .int .i64 (hi s'), .int .u64 (lo s'), .int .i64 l', .int .i64 m'] 30)).alloc (.cells #[.int .i64 0, .int .i64 0, .int .i64 0, .int .u64 0, .int .i64 0, .int .i64 0] 30)).alloc (.cells #[.int .i64 (c + c'), .int .i64 (i + i'), .int .i64 0, .int .u64 0, .int .i64 l', .int .i64 m] 30)).drew (w.heap.size + 1) #[.int .i64 c', .int .i64 i', .int .i64 (hi s'), .int .u64 (lo s'), .int .i64 l', .int .i64 m'] 30 := ((Blk.new' (w := w.alloc (.cells #[.int .i64 c, .int .i64 i, .int .i64 (hi s), .int .u64 (lo s), .int .i64 l, .int .i64 m] 30)) (cs := #[.int .i64 c', .int .i64 i', .int .i64 (hi s'), .int .u64 (lo s'), .int .i64 l', .int .i64 m']) (T := 30) (n := w.heap.size + 1) (by simp)).alloc _).alloc _
        have k3 : Blk ((((w.alloc (.cells #[.int .i64 c, .int .i64 i, .int .i64 (hi s), .int .u64 (lo s), .int .i64 l, .int .i64 m] 30)).alloc (.cells #[.int .i64 c', .int .i64 i', .int .i64 (hi s'), .int .u64 (lo s'), .int .i64 l', .int .i64 m'] 30)).alloc (.cells #[.int .i64 0, .int .i64 0, .int .i64 0, .int .u64 0, .int .i64 0, .int .i64 0] 30)).alloc (.cells #[.int .i64 (c + c'), .int .i64 (i + i'), .int .i64 0, .int .u64 0, .int .i64 l', .int .i64 m] 30)).drew (w.heap.size + 1 + 1 + 1) #[.int .i64 (c + c'), .int .i64 (i + i'), .int .i64 0, .int .u64 0, .int .i64 l', .int .i64 m] 30 := Blk.new' (by simp)
        have hS := Hold3.drew (Hold3.mk' k1 k2 k3)
        go_region_held3 (fun w' => Hold3 w.heap.size #[.int .i64 c, .int .i64 i, .int .i64 (hi s), .int .u64 (lo s), .int .i64 l, .int .i64 m] 30 (w.heap.size + 1) #[.int .i64 c', .int .i64 i', .int .i64 (hi s'), .int .u64 (lo s'), .int .i64 l', .int .i64 m'] 30 (w.heap.size + 1 + 1 + 1) #[.int .i64 (c + c'), .int .i64 (i + i'), .int .i64 0, .int .u64 0, .int .i64 l', .int .i64 m] 30 w') (first | ((with_reducible refine Hold3.off ?_ _ (by omega) (by omega) (by omega)); (repeat (with_reducible refine Hold3.off ?_ _ (by omega) (by omega) (by omega))); (with_reducible assumption)) | (with_reducible exact Hold3.kept (by assumption) hb4) | (with_reducible exact Hold3.kept (by assumption) hb3) | (with_reducible exact Hold3.kept (by assumption) hb2) | (with_reducible exact Hold3.kept (by assumption) hb1) | (with_reducible exact hS))
          (first
            | (go_at_call_of 48 (Value.agg #[Value.int .i64 c, .int .i64 i, .int .i64 (hi s), .int .u64 (lo s), .int .i64 l, .int .i64 m]); refine (hr1.out _).mono ?_; rintro e w1 ⟨rfl, hb1⟩; obtain ⟨hc1, hf1⟩ := bcell hb1; have z1 := hb1.size; simp only [World.size_drew, World.size_alloc] at hc1 hf1 z1; (have y1 : w.heap.size + 1 + 1 < w1.heap.size := by omega))
            | (go_at_call 48; refine (ht1.out _).mono ?_; rintro e w2 ⟨rfl, hb2⟩; obtain ⟨hc2, hf2⟩ := bcell hb2; have z2 := hb2.size; (have y2 : w.heap.size + 1 + 1 < w2.heap.size := by omega))
            | (go_at_call 51; refine (plus_any _ _ s1 s2 _).mono ?_; rintro e w3 ⟨rfl, hb3⟩; obtain ⟨hc3, hf3⟩ := bcell hb3; have z3 := hb3.size; (have y3 : w.heap.size + 1 + 1 < w3.heap.size := by omega))
            | (go_at_call 46; refine (with_any _ _ _ _ _ _ _ _).mono ?_; rintro e w4 ⟨rfl, hb4⟩; obtain ⟨hc4, hf4⟩ := bcell hb4; have z4 := hb4.size; (have y4 : w.heap.size + 1 + 1 < w4.heap.size := by omega)))
        all_goals go_wp2
        all_goals
          refine bodyPost_ret (v := rv ⟨c + c', i + i', s + s', l', m⟩) (by simp [results, Tryd.results29, go_sem, *]) rfl ⟨rfl, ?_⟩
          repeat' (first | (with_reducible exact Below.refl _ _) | (with_reducible refine Below.alloc ?_ (by go_size) _) | (with_reducible refine Below.drew ?_) | (with_reducible refine Below.set ?_ (by omega) _) | (with_reducible refine Below.after ?_ (by with_reducible assumption) (by go_size)))

  · rw [if_neg hpos]
    go_enter Tryd.func29, Tryd.ntmps29
    go_wp2
    have k1 : Blk ((((w.alloc (.cells #[.int .i64 c, .int .i64 i, .int .i64 (hi s), .int .u64 (lo s), .int .i64 l, .int .i64 m] 30)).alloc (.cells #[.int .i64 c', .int .i64 i', .int .i64 (hi s'), .int .u64 (lo s'), .int .i64 l', .int .i64 m'] 30)).alloc (.cells #[.int .i64 0, .int .i64 0, .int .i64 0, .int .u64 0, .int .i64 0, .int .i64 0] 30)).alloc (.cells #[.int .i64 (c + c'), .int .i64 (i + i'), .int .i64 0, .int .u64 0, .int .i64 l', .int .i64 m'] 30)) w.heap.size #[.int .i64 c, .int .i64 i, .int .i64 (hi s), .int .u64 (lo s), .int .i64 l, .int .i64 m] 30 := (((Blk.new w #[.int .i64 c, .int .i64 i, .int .i64 (hi s), .int .u64 (lo s), .int .i64 l, .int .i64 m] 30).alloc _).alloc _).alloc _
    have k2 : Blk ((((w.alloc (.cells #[.int .i64 c, .int .i64 i, .int .i64 (hi s), .int .u64 (lo s), .int .i64 l, .int .i64 m] 30)).alloc (.cells #[.int .i64 c', .int .i64 i', .int .i64 (hi s'), .int .u64 (lo s'), .int .i64 l', .int .i64 m'] 30)).alloc (.cells #[.int .i64 0, .int .i64 0, .int .i64 0, .int .u64 0, .int .i64 0, .int .i64 0] 30)).alloc (.cells #[.int .i64 (c + c'), .int .i64 (i + i'), .int .i64 0, .int .u64 0, .int .i64 l', .int .i64 m'] 30)) (w.heap.size + 1) #[.int .i64 c', .int .i64 i', .int .i64 (hi s'), .int .u64 (lo s'), .int .i64 l', .int .i64 m'] 30 := ((Blk.new' (w := w.alloc (.cells #[.int .i64 c, .int .i64 i, .int .i64 (hi s), .int .u64 (lo s), .int .i64 l, .int .i64 m] 30)) (cs := #[.int .i64 c', .int .i64 i', .int .i64 (hi s'), .int .u64 (lo s'), .int .i64 l', .int .i64 m']) (T := 30) (n := w.heap.size + 1) (by simp)).alloc _).alloc _
    have k3 : Blk ((((w.alloc (.cells #[.int .i64 c, .int .i64 i, .int .i64 (hi s), .int .u64 (lo s), .int .i64 l, .int .i64 m] 30)).alloc (.cells #[.int .i64 c', .int .i64 i', .int .i64 (hi s'), .int .u64 (lo s'), .int .i64 l', .int .i64 m'] 30)).alloc (.cells #[.int .i64 0, .int .i64 0, .int .i64 0, .int .u64 0, .int .i64 0, .int .i64 0] 30)).alloc (.cells #[.int .i64 (c + c'), .int .i64 (i + i'), .int .i64 0, .int .u64 0, .int .i64 l', .int .i64 m'] 30)) (w.heap.size + 1 + 1 + 1) #[.int .i64 (c + c'), .int .i64 (i + i'), .int .i64 0, .int .u64 0, .int .i64 l', .int .i64 m'] 30 := Blk.new' (by simp)
    have hS := Hold3.drew (Hold3.mk' k1 k2 k3)
    go_region_held3 (fun w' => Hold3 w.heap.size #[.int .i64 c, .int .i64 i, .int .i64 (hi s), .int .u64 (lo s), .int .i64 l, .int .i64 m] 30 (w.heap.size + 1) #[.int .i64 c', .int .i64 i', .int .i64 (hi s'), .int .u64 (lo s'), .int .i64 l', .int .i64 m'] 30 (w.heap.size + 1 + 1 + 1) #[.int .i64 (c + c'), .int .i64 (i + i'), .int .i64 0, .int .u64 0, .int .i64 l', .int .i64 m'] 30 w') (first | ((with_reducible refine Hold3.off ?_ _ (by omega) (by omega) (by omega)); (repeat (with_reducible refine Hold3.off ?_ _ (by omega) (by omega) (by omega))); (with_reducible assumption)) | (with_reducible exact Hold3.kept (by assumption) hb4) | (with_reducible exact Hold3.kept (by assumption) hb3) | (with_reducible exact Hold3.kept (by assumption) hb2) | (with_reducible exact Hold3.kept (by assumption) hb1) | (with_reducible exact hS))
      (first
        | (go_at_call_of 48 (Value.agg #[Value.int .i64 c, .int .i64 i, .int .i64 (hi s), .int .u64 (lo s), .int .i64 l, .int .i64 m]); refine (hr1.out _).mono ?_; rintro e w1 ⟨rfl, hb1⟩; obtain ⟨hc1, hf1⟩ := bcell hb1; have z1 := hb1.size; simp only [World.size_drew, World.size_alloc] at hc1 hf1 z1; (have y1 : w.heap.size + 1 + 1 < w1.heap.size := by omega))
        | (go_at_call 48; refine (ht1.out _).mono ?_; rintro e w2 ⟨rfl, hb2⟩; obtain ⟨hc2, hf2⟩ := bcell hb2; have z2 := hb2.size; (have y2 : w.heap.size + 1 + 1 < w2.heap.size := by omega))
        | (go_at_call 51; refine (plus_any _ _ s1 s2 _).mono ?_; rintro e w3 ⟨rfl, hb3⟩; obtain ⟨hc3, hf3⟩ := bcell hb3; have z3 := hb3.size; (have y3 : w.heap.size + 1 + 1 < w3.heap.size := by omega))
        | (go_at_call 46; refine (with_any _ _ _ _ _ _ _ _).mono ?_; rintro e w4 ⟨rfl, hb4⟩; obtain ⟨hc4, hf4⟩ := bcell hb4; have z4 := hb4.size; (have y4 : w.heap.size + 1 + 1 < w4.heap.size := by omega)))
    all_goals go_wp2
    all_goals
      refine bodyPost_ret (v := rv ⟨c + c', i + i', s + s', l', m'⟩) (by simp [results, Tryd.results29, go_sem, *]) rfl ⟨rfl, ?_⟩
      repeat' (first | (with_reducible exact Below.refl _ _) | (with_reducible refine Below.alloc ?_ (by go_size) _) | (with_reducible refine Below.drew ?_) | (with_reducible refine Below.set ?_ (by omega) _) | (with_reducible refine Below.after ?_ (by with_reducible assumption) (by go_size)))

theorem both_any (r t : R) (hr : r.Num) (ht : t.Num) (hs : S120 (r.s + t.s)) (w : World) :
    Calls Tryd.prog 29 #[rv r, rv t] w fun e w' => e = .returned (rv (r.both t)) ∧ Below w.heap.size w w' := by
  by_cases h0 : t.i = 0
  · exact both_none r t hr ht h0 w
  · exact both_some r t hr ht h0 hs w
end Go.Proofs.YtmleipmilmeclaaDoor
