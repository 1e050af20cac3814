/- Walks: values that may be, values that are one. -/
import Derived.Test.YtmleipmilmeclaaDoorWn
namespace Go.Proofs.YtmleipmilmeclaaDoor
open Go.RowKit
attribute [local go_sem ↓] Go.wp_at_zero Go.wp_at_succ

set_option maxHeartbeats 4000000 in
theorem right_any (v : V5) (w0 w : World) (hb0 : Below w0.heap.size w0 w) (L : List (Node w0.heap.size w0)) (h : Nat) (hh : h < 4611686018427387904) (hp : Pre w0.heap.size w0 w h 0 v L) (b : Bool) (hg : b = true ↔ Good L) :
    Calls Tryd.prog 31 #[v.v] w fun e w' => e = .returned (.bool b) ∧ Below w.heap.size w w' := by
  have hc := measure_any v w0 (w.alloc (.cells v.cs 39)) (hb0.alloc hb0.size _) L h hh (hp.below ((Below.refl _ w).alloc hb0.size _))
  obtain ⟨vk, vn, vs, vp, vnp, vcp, vq, vnq, vcq⟩ := v
  have hg' := Lib.hid hg
  clear hp hg hb0
  simp only [V5.v, V5.cs] at hc ⊢
  go_enter Tryd.func31, Tryd.ntmps31
  go_wp2_with (go_at_call 54; refine hc.mono ?_; clear hc; rintro e w1 ⟨⟨d, m, b', rfl, hb', _⟩, hb1⟩)
  go_ret
  refine ⟨?_, Below.after ((Below.refl _ _).alloc (Nat.le_refl _) _) hb1 (by go_size)⟩
  rw [show b' = b from Bool.eq_iff_iff.2 (hb'.trans hg'.out.symm)]
  rfl

set_option maxHeartbeats 4000000 in
theorem eq_nil (p : Option Addr) (c : Nat) (q : Option Addr) (d : Nat) (w : World) :
    Calls Tryd.prog 55 #[.slice p 0 c, .slice q 0 d] w fun e w' => e = .returned (.bool true) ∧ Below w.heap.size w w' := by
  go_enter Tryd.func55, Tryd.ntmps55
  go_wp2_with fail
  go_rounds 1
  all_goals go_wp2_with fail
  go_ret
  exact ⟨rfl, by go_grown⟩

set_option maxHeartbeats 4000000 in
theorem eqf_nil (p : Option Addr) (c : Nat) (q : Option Addr) (d : Nat) (f : Value) (w : World) :
    Calls Tryd.prog 56 #[.slice p 0 c, .slice q 0 d, f] w fun e w' => e = .returned (.bool true) ∧ Below w.heap.size w w' := by
  go_enter Tryd.func56, Tryd.ntmps56
  go_wp2_with fail
  go_rounds 1
  all_goals go_wp2_with fail
  go_ret
  exact ⟨rfl, by go_grown⟩

theorem right_leaf (v : V5) (hk : v.k ≠ 5 ∧ v.k ≠ 6) (hnp : v.np = 0) (b : Bool) (is : ∀ W, Calls Tryd.prog 73 #[v.v] W fun e w' => e = .returned (.bool b) ∧ Below W.heap.size W w') (w : World) :
    Calls Tryd.prog 31 #[v.v] w fun e w' => e = .returned (.bool b) ∧ Below w.heap.size w w' := by
  refine right_any v w w (Below.refl _ _) [⟨0, by omega, by omega, v, b, fun W _ => is W⟩] 1 (by omega) ⟨_, [], rfl, rfl, rfl, ⟨hnp, by simp⟩, .inl rfl, fun i hi => by simp at hi⟩ b ?_
  have hd : dep [(⟨0, by omega, by omega, v, b, fun W _ => is W⟩ : Node w.heap.size w)] = 0 := by
    simp [dep, depN, hk]
  simp [Good, hd]

set_option maxHeartbeats 4000000 in
theorem equal_leaf (x y : V5) (h1 : x.np = 0) (h2 : y.np = 0) (h3 : x.nq = 0) (h4 : y.nq = 0) (w : World) :
    Calls Tryd.prog 32 #[x.v, y.v] w fun e w' => e = .returned (.bool (decide (x.k = y.k ∧ x.n = y.n ∧ x.s = y.s))) ∧ Below w.heap.size w w' := by
  obtain ⟨k, n, s, p, np, cp, q, nq, cq⟩ := x
  obtain ⟨k', n', s', p', np', cp', q', nq', cq'⟩ := y
  simp only at h1 h2 h3 h4
  subst h1 h2 h3 h4
  simp only [V5.v, V5.cs]
  go_enter Tryd.func32, Tryd.ntmps32
  go_wp2_with (first
    | (go_at_call 55; refine (eq_nil _ _ _ _ _).mono ?_; rintro e w1 ⟨rfl, hb1⟩; obtain ⟨hc1, hf1⟩ := bcell hb1; have z1 := hb1.size; simp only [World.size_alloc] at z1 hc1 hf1; (have y1 : w.heap.size < w1.heap.size := by omega); (have y2 : w.heap.size + 1 < w1.heap.size := by omega))
    | (go_at_call 56; refine (eqf_nil _ _ _ _ _ _).mono ?_; rintro e w2 ⟨rfl, hb2⟩; obtain ⟨hc2, hf2⟩ := bcell hb2; have z2 := hb2.size))
  all_goals go_ret
  all_goals refine ⟨?_, ?_⟩
  all_goals first
    | ((repeat' (first | (with_reducible exact Below.refl _ _) | (with_reducible refine Below.alloc ?_ (by go_size) _) | (with_reducible refine Below.after ?_ (by with_reducible assumption) (by go_size)))); done)
    | (simp only [str_eq] at *; simp [*]; done)
    | (simp [*]; done)

set_option maxHeartbeats 4000000 in
theorem same_any (x y : V5) (b c d : Bool) (hx : ∀ w, Calls Tryd.prog 31 #[x.v] w fun e w' => e = .returned (.bool b) ∧ Below w.heap.size w w') (hy : ∀ w, Calls Tryd.prog 31 #[y.v] w fun e w' => e = .returned (.bool c) ∧ Below w.heap.size w w')
    (he : ∀ w, Calls Tryd.prog 32 #[x.v, y.v] w fun e w' => e = .returned (.bool d) ∧ Below w.heap.size w w') (w : World) :
    Calls Tryd.prog 10 #[x.v, y.v] w fun e w' => e = .returned (.bool (b && c && d)) ∧ Below w.heap.size w w' := by
  have hx' := Lib.hid hx
  have hy' := Lib.hid hy
  have he' := Lib.hid he
  clear hx hy he
  obtain ⟨k, n, s, p, np, cp, q, nq, cq⟩ := x
  obtain ⟨k', n', s', p', np', cp', q', nq', cq'⟩ := y
  simp only [V5.v, V5.cs]
  go_enter Tryd.func10, Tryd.ntmps10
  cases b <;> cases c <;> cases d
  all_goals go_wp2_with (first
    | (go_at_call 31; refine (hx'.out _).mono ?_; clear hx'; rintro e w1 ⟨rfl, hb1⟩; obtain ⟨hc1, hf1⟩ := bcell hb1; have z1 := hb1.size; simp only [World.size_alloc] at z1 hc1 hf1; (have y1 : w.heap.size < w1.heap.size := by omega); (have y2 : w.heap.size + 1 < w1.heap.size := by omega))
    | (go_at_call 31; refine (hy'.out _).mono ?_; clear hy'; rintro e w2 ⟨rfl, hb2⟩; obtain ⟨hc2, hf2⟩ := bcell hb2; have z2 := hb2.size; (have y3 : w.heap.size < w2.heap.size := by omega); (have y4 : w.heap.size + 1 < w2.heap.size := by omega))
    | (go_at_call 32; refine (he'.out _).mono ?_; clear he'; rintro e w3 ⟨rfl, hb3⟩))
  all_goals go_ret
  all_goals refine ⟨rfl, ?_⟩
  all_goals repeat' (first | (with_reducible exact Below.refl _ _) | (with_reducible refine Below.alloc ?_ (by go_size) _) | (with_reducible refine Below.after ?_ (by with_reducible assumption) (by go_size)))

theorem right_int (n : Int) (w : World) : Calls Tryd.prog 31 #[vInt n] w fun e w' => e = .returned (.bool true) ∧ Below w.heap.size w w' :=
  right_leaf ⟨3, n, ⟨#[]⟩, none, 0, 0, none, 0, 0⟩ (by simp) rfl true (is_k3 _ rfl true (fun w => by simpa using number_any ⟨3, n, ⟨#[]⟩, none, 0, 0, none, 0, 0⟩ w)) w

theorem right_null (w : World) : Calls Tryd.prog 31 #[vNull] w fun e w' => e = .returned (.bool true) ∧ Below w.heap.size w w' :=
  right_leaf ⟨1, 0, ⟨#[]⟩, none, 0, 0, none, 0, 0⟩ (by simp) rfl true (is_k1 _ rfl true (fun w => by simpa using null_any ⟨1, 0, ⟨#[]⟩, none, 0, 0, none, 0, 0⟩ w)) w

theorem same_int (a b : Int) (w : World) : Calls Tryd.prog 10 #[vInt a, vInt b] w fun e w' => e = .returned (.bool (decide (a = b))) ∧ Below w.heap.size w w' := by
  have h := same_any ⟨3, a, ⟨#[]⟩, none, 0, 0, none, 0, 0⟩ ⟨3, b, ⟨#[]⟩, none, 0, 0, none, 0, 0⟩ true true (decide (a = b)) (right_int a) (right_int b) (fun w => by simpa using equal_leaf ⟨3, a, ⟨#[]⟩, none, 0, 0, none, 0, 0⟩ ⟨3, b, ⟨#[]⟩, none, 0, 0, none, 0, 0⟩ rfl rfl rfl rfl w) w
  simpa using h

theorem same_null (w : World) : Calls Tryd.prog 10 #[vNull, vNull] w fun e w' => e = .returned (.bool true) ∧ Below w.heap.size w w' := by
  have h := same_any ⟨1, 0, ⟨#[]⟩, none, 0, 0, none, 0, 0⟩ ⟨1, 0, ⟨#[]⟩, none, 0, 0, none, 0, 0⟩ true true true right_null right_null (fun w => by simpa using equal_leaf ⟨1, 0, ⟨#[]⟩, none, 0, 0, none, 0, 0⟩ ⟨1, 0, ⟨#[]⟩, none, 0, 0, none, 0, 0⟩ rfl rfl rfl rfl w) w
  simpa using h

end Go.Proofs.YtmleipmilmeclaaDoor
