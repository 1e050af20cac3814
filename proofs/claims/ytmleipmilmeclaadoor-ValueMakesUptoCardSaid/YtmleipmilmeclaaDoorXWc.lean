/- Walks: One and Check. -/
import Derived.Test.YtmleipmilmeclaaDoorXWb
namespace Go.Proofs.YtmleipmilmeclaaDoor
open Go.RowKit
attribute [local go_sem ↓] Go.wp_at_zero Go.wp_at_succ

theorem below_drewN (B : Nat) (w : World) (n : Nat) : Below B w (w.drewN n) := ⟨rfl, rfl, rfl, Nat.le_refl _, fun _ _ => rfl⟩
theorem hi_zero : hi 0 = 0 := by unfold hi; omega
theorem lo_zero : lo 0 = 0 := by unfold lo; omega

set_option maxHeartbeats 400000 in
theorem one_no (k v : Value) (n : Int) (ka : Option Addr) (kl kc : Nat) (hk : k = .slice ka kl kc) (va : Option Addr) (vl vc : Nat) (hv : v = .slice va vl vc) (w : World) :
    Calls Tryd.prog 26 #[.agg #[k, v, .bool false, .int .i64 n]] w fun e w' => e = .returned (rv R.none) ∧ Below w.heap.size w w' := by
  subst hk hv
  have h1 := Lib.hid hi_zero
  have h2 := Lib.hid lo_zero
  go_enter Tryd.func26, Tryd.ntmps26
  go_wp2
  refine bodyPost_ret (v := rv R.none) (by simp [results, Tryd.results26, go_sem, *, R.none, h1.out, h2.out]) rfl ⟨rfl, ?_⟩
  go_grown

set_option maxHeartbeats 400000 in
theorem one_yes (k v : Value) (n : Int) (hn : I64 n) (ka : Option Addr) (kl kc : Nat) (hk : k = .slice ka kl kc) (va : Option Addr) (vl vc : Nat) (hv : v = .slice va vl vc) (w : World) :
    Calls Tryd.prog 26 #[.agg #[k, v, .bool true, .int .i64 n]] w fun e w' => e = .returned (rv (R.one n)) ∧ Below w.heap.size w w' := by
  subst hk hv
  go_enter Tryd.func26, Tryd.ntmps26
  go_wp2
  have hS := (Hold.mk' (Blk.new w #[.slice ka kl kc, .slice va vl vc, .bool true, .int .i64 n] 27)).alloc (.cells #[.int .i64 0, .int .i64 0, .int .i64 0, .int .u64 0, .int .i64 0, .int .i64 0] 30)
  go_region_held3 (fun w' => Hold w.heap.size #[.slice ka kl kc, .slice va vl vc, .bool true, .int .i64 n] 27 w') (first | ((with_reducible refine Hold.off ?_ _ (by omega)); (repeat (with_reducible refine Hold.off ?_ _ (by omega))); (with_reducible assumption)) | (with_reducible exact Hold.drew hS) | (with_reducible exact Hold.kept (by assumption) hb2) | (with_reducible exact Hold.kept (by assumption) hb))
    (first
      | (go_at_call 47; refine (of_any _ hn _).mono ?_; rintro e w1 ⟨rfl, hb⟩; obtain ⟨hc, hf⟩ := bcell hb; have z1 := hb.size; simp only [World.size_alloc, World.size_drew] at z1; (have y1 : w.heap.size < w1.heap.size := by omega); (have y2 : w.heap.size + 1 < w1.heap.size := by omega))
      | (go_at_call 46; refine (with_any _ _ _ _ _ _ _ _).mono ?_; rintro e w2 ⟨rfl, hb2⟩; obtain ⟨hc, hf⟩ := bcell hb2; have z2 := hb2.size; (have y3 : w.heap.size < w2.heap.size := by omega); (have y4 : w.heap.size + 1 < w2.heap.size := by omega)))
  all_goals go_wp2
  all_goals
    refine bodyPost_ret (v := rv (R.one n)) (by simp [results, Tryd.results26, go_sem, *, R.one]) rfl ⟨rfl, ?_⟩
    repeat' (first | (with_reducible exact Below.refl _ _) | (with_reducible refine Below.alloc ?_ (by go_size) _) | (with_reducible refine Below.drew ?_) | (with_reducible refine Below.set ?_ (by omega) _) | (with_reducible refine Below.after ?_ (by with_reducible assumption) (by go_size)))

set_option maxHeartbeats 1000000 in
theorem check0 (r : R) (hr : r.Num) (h0 : r.i = 0) (w : World) :
    Calls Tryd.prog 27 #[rv r] w fun e w' => e = .returned (.int .i64 (if r.fine then 0 else 230)) ∧ Below w.heap.size w w' := by
  obtain ⟨c, i, s, l, m⟩ := r
  have c0 := hr.c0
  have c1 := hr.c1
  simp only at h0 c0 c1
  clear hr
  subst h0
  have q := eql30
  have hz : decide (hi s = 0 ∧ lo s = 0 ∧ l = 0 ∧ m = 0) = decide (R.fine ⟨c, 0, s, l, m⟩) := by
    have := eq_iff s 0
    rw [hi_zero, lo_zero] at this
    rw [Bool.eq_iff_iff]
    simp only [decide_eq_true_eq, R.fine, if_true]
    constructor
    · intro h; exact ⟨this.1 ⟨h.1, h.2.1⟩, h.2.2⟩
    · intro h; exact ⟨(this.2 h.1).1, (this.2 h.1).2, h.2⟩
  simp only [rv]
  by_cases hf : R.fine ⟨c, 0, s, l, m⟩
  · rw [if_pos hf]
    have hz2 : decide (hi s = 0 ∧ lo s = 0 ∧ l = 0 ∧ m = 0) = true := by rw [hz]; simp [hf]
    clear hf hz
    go_enter Tryd.func27, Tryd.ntmps27
    go_wp2
    go_ret
    exact ⟨rfl, by go_grown⟩
  · rw [if_neg hf]
    have hz2 : decide (hi s = 0 ∧ lo s = 0 ∧ l = 0 ∧ m = 0) = false := by rw [hz]; simp [hf]
    clear hf hz
    go_enter Tryd.func27, Tryd.ntmps27
    go_wp2
    go_ret
    exact ⟨rfl, by go_grown⟩

set_option maxHeartbeats 1000000 in
theorem check1 (r : R) (hr : r.Num) (h0 : r.i = 1) (w : World) :
    Calls Tryd.prog 27 #[rv r] w fun e w' => e = .returned (.int .i64 (if r.fine then 0 else 230)) ∧ Below w.heap.size w w' := by
  have ht := total_any r
  obtain ⟨c, i, s, l, m⟩ := r
  have c0 := hr.i1
  have c1 := hr.c1
  have hl := hr.l
  simp only at h0 c0 c1 hl
  clear hr
  subst h0
  have q := eql92
  have ht := Lib.hid ht
  simp only [rv] at *
  by_cases hlm : l = m
  · have hb : (l == m) = true := by simp [hlm]
    have hz : decide (hi s = hi l ∧ lo s = lo l) = decide (R.fine ⟨c, 1, s, l, m⟩) := by
      rw [Bool.eq_iff_iff]
      simp only [decide_eq_true_eq, R.fine, if_true, if_neg (show ¬ (1 : Int) = 0 by omega), hlm, true_and]
      exact eq_iff s m
    clear hlm
    by_cases hf : R.fine ⟨c, 1, s, l, m⟩
    all_goals
      first
        | rw [if_pos hf]; have hz2 : decide (hi s = hi l ∧ lo s = lo l) = true := by rw [hz]; simp [hf]
        | rw [if_neg hf]; have hz2 : decide (hi s = hi l ∧ lo s = lo l) = false := by rw [hz]; simp [hf]
      clear hf hz
      go_enter Tryd.func27, Tryd.ntmps27
      go_wp2
      have hS := (Hold.mk' (Blk.new w #[.int .i64 c, .int .i64 1, .int .i64 (hi s), .int .u64 (lo s), .int .i64 l, .int .i64 m] 30))
      go_region_held3 (fun w' => Hold w.heap.size #[.int .i64 c, .int .i64 1, .int .i64 (hi s), .int .u64 (lo s), .int .i64 l, .int .i64 m] 30 w') (first | (with_reducible exact Hold.kept (by assumption) hb2) | (with_reducible exact Hold.kept (by assumption) hb1) | (with_reducible exact Hold.drew hS))
        (first
          | (go_at_call 47; refine (of_any _ hl _).mono ?_; rintro e w2 ⟨rfl, hb2⟩)
          | (go_at_call 48; refine (ht.out _).mono ?_; rintro e w1 ⟨rfl, hb1⟩))
      all_goals go_wp2
      all_goals
        go_ret
        refine ⟨rfl, ?_⟩
        have z1 := hb1.size
        simp only [World.size_alloc, World.size_drew] at z1
        repeat' (first | (with_reducible exact Below.refl _ _) | (with_reducible refine Below.alloc ?_ (by go_size) _) | (with_reducible refine Below.drew ?_) | (with_reducible refine Below.set ?_ (by omega) _) | (with_reducible refine Below.after ?_ (by with_reducible assumption) (by go_size)))
  · have hb : (l == m) = false := by simp [hlm]
    have hf : ¬ R.fine ⟨c, 1, s, l, m⟩ := by simp [R.fine, hlm]
    rw [if_neg hf]
    clear hlm hf
    go_enter Tryd.func27, Tryd.ntmps27
    go_wp2
    go_quiet (fail)
    go_wp2
    go_ret
    exact ⟨rfl, Below.trans (by go_grown) (below_drewN _ _ _)⟩

/-- the bounds of a sum -/
def bLow (i l m : Int) : Int := l + m + l * (i - 2)
def bHigh (i l m : Int) : Int := l + m + m * (i - 2)

set_option maxHeartbeats 2000000 in
theorem check2 (r : R) (hr : r.Num) (h0 : 2 ≤ r.i) (w : World) :
    Calls Tryd.prog 27 #[rv r] w fun e w' => e = .returned (.int .i64 (if r.fine then 0 else 230)) ∧ Below w.heap.size w w' := by
  have ht := total_any r
  have hbd := bounds_any r hr h0
  obtain ⟨c, i, s, l, m⟩ := r
  have c0 := hr.i1
  have c1 := hr.c1
  simp only at h0 c0 c1
  clear hr
  have hz : R.fine ⟨c, i, s, l, m⟩ ↔ l ≤ m ∧ ¬ bLow i l m > s ∧ ¬ s > bHigh i l m := by
    simp only [R.fine, if_neg (show ¬ i = 0 by omega), if_neg (show ¬ i = 1 by omega), bLow, bHigh]
    omega
  change ∀ w, Calls Tryd.prog 49 #[rv ⟨c, i, s, l, m⟩] w fun e w' => e = .returned (.tuple #[hl (bLow i l m), hl (bHigh i l m)]) ∧ Below w.heap.size w w' at hbd
  generalize bLow i l m = L at *
  generalize bHigh i l m = H at *
  have ht := Lib.hid ht
  have hbd := Lib.hid hbd
  simp only [rv] at *
  have n0 : (i == 0) = false := by simp; omega
  have n1 : (i == 1) = false := by simp; omega
  by_cases hlm : l ≤ m
  · have hb : decide (l ≤ m) = true := by simp [hlm]
    by_cases hL : L > s
    · have hd : decide (L > s) = true := by simp [hL]
      have ha := above_any L s
      rw [hd] at ha
      rw [if_neg (by rw [hz]; intro h; exact h.2.1 hL)]
      have ha := Lib.hid ha
      clear hz hL hd hlm
      go_enter Tryd.func27, Tryd.ntmps27
      go_wp2_with (go_at_call 49; refine (hbd.out _).mono ?_; rintro e w0 ⟨rfl, hb0⟩; obtain ⟨hc0, hf0⟩ := bcell hb0; have z0 := hb0.size; simp only [World.size_alloc] at z0; (have y0 : w.heap.size < w0.heap.size := by omega))
      go_region_with
        (first
          | (go_at_call 50; refine (ha.out _).mono ?_; rintro e w2 ⟨rfl, hb2⟩)
          | (go_at_call 48; refine (ht.out _).mono ?_; rintro e w1 ⟨rfl, hb1⟩; obtain ⟨hc1, hf1⟩ := bcell hb1))
      all_goals go_wp2
      all_goals
        go_ret
        refine ⟨rfl, ?_⟩
        have z1 := hb1.size
        simp only [World.size_alloc, World.size_drew] at z1
        have z2 := hb2.size
        repeat' (first | (with_reducible exact Below.refl _ _) | (with_reducible refine Below.alloc ?_ (by go_size) _) | (with_reducible refine Below.drew ?_) | (with_reducible refine Below.set ?_ (by omega) _) | (with_reducible refine Below.after ?_ (by with_reducible assumption) (by go_size)))
    · have hd : decide (L > s) = false := by simp; omega
      have ha := above_any L s
      rw [hd] at ha
      have hA := above_any s H
      by_cases hH : s > H
      all_goals
        first
          | have hd2 : decide (s > H) = true := by simp [hH]
            rw [if_neg (by rw [hz]; intro h; exact h.2.2 hH)]
          | have hd2 : decide (s > H) = false := by simp; omega
            rw [if_pos (by rw [hz]; exact ⟨hlm, hL, hH⟩)]
        rw [hd2] at hA
        have ha := Lib.hid ha
        have hA := Lib.hid hA
        clear hz hL hd hlm hH hd2
        go_enter Tryd.func27, Tryd.ntmps27
        go_wp2_with (go_at_call 49; refine (hbd.out _).mono ?_; rintro e w0 ⟨rfl, hb0⟩; obtain ⟨hc0, hf0⟩ := bcell hb0; have z0 := hb0.size; simp only [World.size_alloc] at z0; (have y0 : w.heap.size < w0.heap.size := by omega))
        have hS := Hold3.drew (Hold3.mk' (((Blk.new w #[.int .i64 c, .int .i64 i, .int .i64 (hi s), .int .u64 (lo s), .int .i64 l, .int .i64 m] 30).kept hb0).alloc (.cells #[.int .i64 (hi L), .int .u64 (lo L)] 92) |>.alloc (.cells #[.int .i64 (hi H), .int .u64 (lo H)] 92)) ((Blk.new w0 #[.int .i64 (hi L), .int .u64 (lo L)] 92).alloc (.cells #[.int .i64 (hi H), .int .u64 (lo H)] 92)) (Blk.new' (w := w0.alloc (.cells #[.int .i64 (hi L), .int .u64 (lo L)] 92)) (cs := #[.int .i64 (hi H), .int .u64 (lo H)]) (T := 92) (n := w0.heap.size + 1) (by simp)))
        go_region_held3 (fun w' => Hold3 w.heap.size #[.int .i64 c, .int .i64 i, .int .i64 (hi s), .int .u64 (lo s), .int .i64 l, .int .i64 m] 30 w0.heap.size #[.int .i64 (hi L), .int .u64 (lo L)] 92 (w0.heap.size + 1) #[.int .i64 (hi H), .int .u64 (lo H)] 92 w') (first | (with_reducible exact Hold3.kept (by assumption) hb4) | (with_reducible exact Hold3.kept (by assumption) hb3) | (with_reducible exact Hold3.kept (by assumption) hb2) | (with_reducible exact Hold3.kept (by assumption) hb1) | (with_reducible exact hS))
          (first
            | (go_at_call_of 50 (Value.agg #[Value.int .i64 (hi L), Value.int .u64 (lo L)]); refine (ha.out _).mono ?_; rintro e w2 ⟨rfl, hb2⟩; have z2 := hb2.size)
            | (go_at_call 50; refine (hA.out _).mono ?_; rintro e w4 ⟨rfl, hb4⟩; have z4 := hb4.size)
            | (go_at_call 48; refine (ht.out _).mono ?_; rintro e w1 ⟨rfl, hb1⟩; have z1 := hb1.size; (try simp only [World.size_alloc, World.size_drew] at z1)))
        all_goals go_wp2
        all_goals
          go_ret
          refine ⟨rfl, ?_⟩
          repeat' (first | (with_reducible exact Below.refl _ _) | (with_reducible refine Below.alloc ?_ (by go_size) _) | (with_reducible refine Below.drew ?_) | (with_reducible refine Below.set ?_ (by omega) _) | (with_reducible refine Below.after ?_ (by with_reducible assumption) (by go_size)))
  · rw [if_neg (by rw [hz]; intro h; exact hlm h.1)]
    have hb : decide (l ≤ m) = false := by simp; omega
    clear hz hlm
    go_enter Tryd.func27, Tryd.ntmps27
    go_wp2_with (go_at_call 49; refine (hbd.out _).mono ?_; rintro e w0 ⟨rfl, hb0⟩; obtain ⟨hc0, hf0⟩ := bcell hb0; have z0 := hb0.size; simp only [World.size_alloc] at z0; (have y0 : w.heap.size < w0.heap.size := by omega))
    go_quiet (fail)
    go_wp2
    go_ret
    refine ⟨rfl, Below.trans ?_ (below_drewN _ _ _)⟩
    repeat' (first | (with_reducible exact Below.refl _ _) | (with_reducible refine Below.alloc ?_ (by go_size) _) | (with_reducible refine Below.drew ?_) | (with_reducible refine Below.set ?_ (by omega) _) | (with_reducible refine Below.after ?_ (by with_reducible assumption) (by go_size)))

theorem check_any (r : R) (hr : r.Num) (w : World) :
    Calls Tryd.prog 27 #[rv r] w fun e w' => e = .returned (.int .i64 (if r.fine then 0 else 230)) ∧ Below w.heap.size w w' := by
  have := hr.i0
  by_cases h0 : r.i = 0
  · exact check0 r hr h0 w
  · by_cases h1 : r.i = 1
    · exact check1 r hr h1 w
    · exact check2 r hr (by omega) w
theorem check_ok (r : R) (hr : r.Ok) (w : World) :
    Calls Tryd.prog 27 #[rv r] w fun e w' => e = .returned (.int .i64 0) ∧ Below w.heap.size w w' := by
  have := check_any r hr.toNum w
  rwa [if_pos hr.fine] at this
end Go.Proofs.YtmleipmilmeclaaDoor
