/- Walks: shapes of values. -/
import Derived.Test.YtmleipmilmeclaaDoorXWi
namespace Go.Proofs.YtmleipmilmeclaaDoor
open Go.RowKit
attribute [local go_sem ↓] Go.wp_at_zero Go.wp_at_succ

/-- A value's five cells. -/
structure V5 where
  k : Int
  n : Int
  s : ByteArray
  p : Option Addr
  np : Nat
  cp : Nat
  q : Option Addr
  nq : Nat
  cq : Nat

abbrev V5.cs (x : V5) : Array Value := #[.int .i64 x.k, .int .i64 x.n, .string x.s, .slice x.p x.np x.cp, .slice x.q x.nq x.cq]
abbrev V5.v (x : V5) : Value := .agg x.cs

theorem str_eq (x y : ByteArray) : x.toList = y.toList ↔ x = y := by
  rw [ByteArray.toList_eq, ByteArray.toList_eq]
  exact ⟨fun h => ByteArray.ext (Array.toList_inj.mp h), fun h => by rw [h]⟩

theorem nat_beq (n : Nat) : ((n : Int) == 0) = decide (n = 0) := by
  by_cases h : n = 0
  · subst h; rfl
  · have : (n : Int) ≠ 0 := by omega
    simp [h]

set_option maxHeartbeats 4000000 in
theorem bare_any (x : V5) (n : Int) (t : ByteArray) (c : Int) (w : World) :
    Calls Tryd.prog 95 #[x.v, .int .i64 n, .string t, .int .i64 c] w fun e w' => e = .returned (.bool (decide (x.n = n ∧ x.s = t ∧ (x.np : Int) = c ∧ x.nq = 0))) ∧ Below w.heap.size w w' := by
  obtain ⟨k, xn, s, p, np, cp, q, nq, cq⟩ := x
  simp only [V5.v, V5.cs]
  go_enter Tryd.func95, Tryd.ntmps95
  go_wp2_with fail
  all_goals go_ret
  all_goals (refine ⟨?_, by go_grown⟩)
  · simp only [*, str_eq] at *; simp [*, nat_beq]
  · simp only [*, str_eq] at *; simp [*]
  · simp only [*, str_eq] at *; simp [*]
  · simp [*]

set_option maxHeartbeats 4000000 in
theorem null_any (x : V5) (w : World) :
    Calls Tryd.prog 85 #[x.v] w fun e w' => e = .returned (.bool (decide (x.n = 0 ∧ x.s = ⟨#[]⟩ ∧ x.np = 0 ∧ x.nq = 0))) ∧ Below w.heap.size w w' := by
  have hb := fun w => bare_any x 0 ⟨#[]⟩ 0 w
  obtain ⟨k, xn, s, p, np, cp, q, nq, cq⟩ := x
  simp only [V5.v, V5.cs] at hb ⊢
  go_enter Tryd.func85, Tryd.ntmps85
  go_wp2_with (go_at_call 95; refine (hb _).mono ?_; rintro e w1 ⟨rfl, hb1⟩)
  go_ret
  exact ⟨by simp; done, Below.after ((Below.refl _ _).alloc (Nat.le_refl _) _) hb1 (by go_size)⟩

set_option maxHeartbeats 4000000 in
theorem number_any (x : V5) (w : World) :
    Calls Tryd.prog 87 #[x.v] w fun e w' => e = .returned (.bool (decide (x.s = ⟨#[]⟩ ∧ x.np = 0 ∧ x.nq = 0))) ∧ Below w.heap.size w w' := by
  have hb := fun w => bare_any x x.n ⟨#[]⟩ 0 w
  obtain ⟨k, xn, s, p, np, cp, q, nq, cq⟩ := x
  simp only [V5.v, V5.cs] at hb ⊢
  go_enter Tryd.func87, Tryd.ntmps87
  go_wp2_with (go_at_call 95; refine (hb _).mono ?_; rintro e w1 ⟨rfl, hb1⟩)
  go_ret
  exact ⟨by simp; done, Below.after ((Below.refl _ _).alloc (Nat.le_refl _) _) hb1 (by go_size)⟩

set_option maxHeartbeats 4000000 in
theorem list_any (x : V5) (w : World) :
    Calls Tryd.prog 89 #[x.v] w fun e w' => e = .returned (.bool (decide (x.n = 0 ∧ x.s = ⟨#[]⟩ ∧ x.nq = 0))) ∧ Below w.heap.size w w' := by
  have hb := fun w => bare_any x 0 ⟨#[]⟩ (x.np : Int) w
  obtain ⟨k, xn, s, p, np, cp, q, nq, cq⟩ := x
  simp only [V5.v, V5.cs] at hb ⊢
  go_enter Tryd.func89, Tryd.ntmps89
  go_wp2_with (go_at_call 95; refine (hb _).mono ?_; rintro e w1 ⟨rfl, hb1⟩)
  go_ret
  exact ⟨by simp; done, Below.after ((Below.refl _ _).alloc (Nat.le_refl _) _) hb1 (by go_size)⟩

set_option maxHeartbeats 4000000 in
theorem is_k1 (x : V5) (h : x.k = 1) (b : Bool) (hb : ∀ w, Calls Tryd.prog 85 #[x.v] w fun e w' => e = .returned (.bool b) ∧ Below w.heap.size w w') (w : World) :
    Calls Tryd.prog 73 #[x.v] w fun e w' => e = .returned (.bool b) ∧ Below w.heap.size w w' := by
  obtain ⟨k, xn, s, p, np, cp, q, nq, cq⟩ := x
  simp only at h
  subst h
  simp only [V5.v, V5.cs] at hb ⊢
  go_enter Tryd.func73, Tryd.ntmps73
  go_upto_region 2 with fail
  go_region_with (go_at_call 85; refine (hb _).mono ?_; rintro e w1 ⟨rfl, hb1⟩; obtain ⟨hc1, hf1⟩ := bcell hb1; have z1 := hb1.size; simp only [World.size_alloc, World.size_drew] at z1 hc1 hf1; have y1 : w.heap.size < w1.heap.size := by omega)
  all_goals go_wp2_with fail
  all_goals go_ret
  all_goals (refine ⟨rfl, ?_⟩)
  all_goals repeat' (first | (with_reducible exact Below.refl _ _) | (with_reducible refine Below.alloc ?_ (by go_size) _) | (with_reducible refine Below.drew ?_) | (with_reducible refine Below.set ?_ (by omega) _) | (with_reducible refine Below.after ?_ (by with_reducible assumption) (by go_size)))

set_option maxHeartbeats 4000000 in
theorem is_k2 (x : V5) (h : x.k = 2) (b : Bool) (hb : ∀ w, Calls Tryd.prog 86 #[x.v] w fun e w' => e = .returned (.bool b) ∧ Below w.heap.size w w') (w : World) :
    Calls Tryd.prog 73 #[x.v] w fun e w' => e = .returned (.bool b) ∧ Below w.heap.size w w' := by
  obtain ⟨k, xn, s, p, np, cp, q, nq, cq⟩ := x
  simp only at h
  subst h
  simp only [V5.v, V5.cs] at hb ⊢
  go_enter Tryd.func73, Tryd.ntmps73
  go_upto_region 2 with fail
  go_region_with (go_at_call 86; refine (hb _).mono ?_; rintro e w1 ⟨rfl, hb1⟩; obtain ⟨hc1, hf1⟩ := bcell hb1; have z1 := hb1.size; simp only [World.size_alloc, World.size_drew] at z1 hc1 hf1; have y1 : w.heap.size < w1.heap.size := by omega)
  all_goals go_wp2_with fail
  all_goals go_ret
  all_goals (refine ⟨rfl, ?_⟩)
  all_goals repeat' (first | (with_reducible exact Below.refl _ _) | (with_reducible refine Below.alloc ?_ (by go_size) _) | (with_reducible refine Below.drew ?_) | (with_reducible refine Below.set ?_ (by omega) _) | (with_reducible refine Below.after ?_ (by with_reducible assumption) (by go_size)))

set_option maxHeartbeats 4000000 in
theorem is_k3 (x : V5) (h : x.k = 3) (b : Bool) (hb : ∀ w, Calls Tryd.prog 87 #[x.v] w fun e w' => e = .returned (.bool b) ∧ Below w.heap.size w w') (w : World) :
    Calls Tryd.prog 73 #[x.v] w fun e w' => e = .returned (.bool b) ∧ Below w.heap.size w w' := by
  obtain ⟨k, xn, s, p, np, cp, q, nq, cq⟩ := x
  simp only at h
  subst h
  simp only [V5.v, V5.cs] at hb ⊢
  go_enter Tryd.func73, Tryd.ntmps73
  go_upto_region 2 with fail
  go_region_with (go_at_call 87; refine (hb _).mono ?_; rintro e w1 ⟨rfl, hb1⟩; obtain ⟨hc1, hf1⟩ := bcell hb1; have z1 := hb1.size; simp only [World.size_alloc, World.size_drew] at z1 hc1 hf1; have y1 : w.heap.size < w1.heap.size := by omega)
  all_goals go_wp2_with fail
  all_goals go_ret
  all_goals (refine ⟨rfl, ?_⟩)
  all_goals repeat' (first | (with_reducible exact Below.refl _ _) | (with_reducible refine Below.alloc ?_ (by go_size) _) | (with_reducible refine Below.drew ?_) | (with_reducible refine Below.set ?_ (by omega) _) | (with_reducible refine Below.after ?_ (by with_reducible assumption) (by go_size)))

set_option maxHeartbeats 4000000 in
theorem is_k4 (x : V5) (h : x.k = 4) (b : Bool) (hb : ∀ w, Calls Tryd.prog 88 #[x.v] w fun e w' => e = .returned (.bool b) ∧ Below w.heap.size w w') (w : World) :
    Calls Tryd.prog 73 #[x.v] w fun e w' => e = .returned (.bool b) ∧ Below w.heap.size w w' := by
  obtain ⟨k, xn, s, p, np, cp, q, nq, cq⟩ := x
  simp only at h
  subst h
  simp only [V5.v, V5.cs] at hb ⊢
  go_enter Tryd.func73, Tryd.ntmps73
  go_upto_region 2 with fail
  go_region_with (go_at_call 88; refine (hb _).mono ?_; rintro e w1 ⟨rfl, hb1⟩; obtain ⟨hc1, hf1⟩ := bcell hb1; have z1 := hb1.size; simp only [World.size_alloc, World.size_drew] at z1 hc1 hf1; have y1 : w.heap.size < w1.heap.size := by omega)
  all_goals go_wp2_with fail
  all_goals go_ret
  all_goals (refine ⟨rfl, ?_⟩)
  all_goals repeat' (first | (with_reducible exact Below.refl _ _) | (with_reducible refine Below.alloc ?_ (by go_size) _) | (with_reducible refine Below.drew ?_) | (with_reducible refine Below.set ?_ (by omega) _) | (with_reducible refine Below.after ?_ (by with_reducible assumption) (by go_size)))

set_option maxHeartbeats 4000000 in
theorem is_k5 (x : V5) (h : x.k = 5) (b : Bool) (hb : ∀ w, Calls Tryd.prog 89 #[x.v] w fun e w' => e = .returned (.bool b) ∧ Below w.heap.size w w') (w : World) :
    Calls Tryd.prog 73 #[x.v] w fun e w' => e = .returned (.bool b) ∧ Below w.heap.size w w' := by
  obtain ⟨k, xn, s, p, np, cp, q, nq, cq⟩ := x
  simp only at h
  subst h
  simp only [V5.v, V5.cs] at hb ⊢
  go_enter Tryd.func73, Tryd.ntmps73
  go_upto_region 2 with fail
  go_region_with (go_at_call 89; refine (hb _).mono ?_; rintro e w1 ⟨rfl, hb1⟩; obtain ⟨hc1, hf1⟩ := bcell hb1; have z1 := hb1.size; simp only [World.size_alloc, World.size_drew] at z1 hc1 hf1; have y1 : w.heap.size < w1.heap.size := by omega)
  all_goals go_wp2_with fail
  all_goals go_ret
  all_goals (refine ⟨rfl, ?_⟩)
  all_goals repeat' (first | (with_reducible exact Below.refl _ _) | (with_reducible refine Below.alloc ?_ (by go_size) _) | (with_reducible refine Below.drew ?_) | (with_reducible refine Below.set ?_ (by omega) _) | (with_reducible refine Below.after ?_ (by with_reducible assumption) (by go_size)))

set_option maxHeartbeats 4000000 in
theorem is_k6 (x : V5) (h : x.k = 6) (b : Bool) (hb : ∀ w, Calls Tryd.prog 90 #[x.v] w fun e w' => e = .returned (.bool b) ∧ Below w.heap.size w w') (w : World) :
    Calls Tryd.prog 73 #[x.v] w fun e w' => e = .returned (.bool b) ∧ Below w.heap.size w w' := by
  obtain ⟨k, xn, s, p, np, cp, q, nq, cq⟩ := x
  simp only at h
  subst h
  simp only [V5.v, V5.cs] at hb ⊢
  go_enter Tryd.func73, Tryd.ntmps73
  go_upto_region 2 with fail
  go_region_with (go_at_call 90; refine (hb _).mono ?_; rintro e w1 ⟨rfl, hb1⟩; obtain ⟨hc1, hf1⟩ := bcell hb1; have z1 := hb1.size; simp only [World.size_alloc, World.size_drew] at z1 hc1 hf1; have y1 : w.heap.size < w1.heap.size := by omega)
  all_goals go_wp2_with fail
  all_goals go_ret
  all_goals (refine ⟨rfl, ?_⟩)
  all_goals repeat' (first | (with_reducible exact Below.refl _ _) | (with_reducible refine Below.alloc ?_ (by go_size) _) | (with_reducible refine Below.drew ?_) | (with_reducible refine Below.set ?_ (by omega) _) | (with_reducible refine Below.after ?_ (by with_reducible assumption) (by go_size)))

end Go.Proofs.YtmleipmilmeclaaDoor
