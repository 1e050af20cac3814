/- Walks: a value of its kind, where the package's none must lie. -/
import Derived.Test.YtmleipmilmeclaaDoorXUe
namespace Go.Proofs.YtmleipmilmeclaaDoor
open Go.RowKit
attribute [local go_sem ↓] Go.wp_at_zero Go.wp_at_succ

set_option maxHeartbeats 4000000 in
theorem is_g4 (x : V5) (h : x.k = 4) (b : Bool) (w : World) (hb : ∀ w', Below w.heap.size w w' → Calls Tryd.prog 88 #[x.v] w' fun e w'' => e = .returned (.bool b) ∧ Below w'.heap.size w' w'') :
    Calls Tryd.prog 73 #[x.v] w fun e w' => e = .returned (.bool b) ∧ Below w.heap.size w w' := by
  obtain ⟨k, xn, s, p, np, cp, q, nq, cq⟩ := x
  simp only at h
  subst h
  simp only [V5.v, V5.cs] at hb ⊢
  go_enter Tryd.func73, Tryd.ntmps73
  go_upto_region 2 with fail
  go_region_with (go_at_call 88; refine (hb _ (by (repeat' (first | (with_reducible exact Below.refl _ _) | (with_reducible refine Below.alloc ?_ (by go_size) _) | (with_reducible refine Below.drew ?_))))).mono ?_; rintro e w1 ⟨rfl, hb1⟩; obtain ⟨hc1, hf1⟩ := bcell hb1; have z1 := hb1.size; simp only [World.size_alloc, World.size_drew] at z1 hc1 hf1; have y1 : w.heap.size < w1.heap.size := by omega)
  all_goals go_wp2_with fail
  all_goals go_ret
  all_goals (refine ⟨rfl, ?_⟩)
  all_goals repeat' (first | (with_reducible exact Below.refl _ _) | (with_reducible refine Below.alloc ?_ (by go_size) _) | (with_reducible refine Below.drew ?_) | (with_reducible refine Below.set ?_ (by omega) _) | (with_reducible refine Below.after ?_ (by with_reducible assumption) (by go_size)))

set_option maxHeartbeats 4000000 in
theorem is_g6 (x : V5) (h : x.k = 6) (b : Bool) (w : World) (hb : ∀ w', Below w.heap.size w w' → Calls Tryd.prog 90 #[x.v] w' fun e w'' => e = .returned (.bool b) ∧ Below w'.heap.size w' w'') :
    Calls Tryd.prog 73 #[x.v] w fun e w' => e = .returned (.bool b) ∧ Below w.heap.size w w' := by
  obtain ⟨k, xn, s, p, np, cp, q, nq, cq⟩ := x
  simp only at h
  subst h
  simp only [V5.v, V5.cs] at hb ⊢
  go_enter Tryd.func73, Tryd.ntmps73
  go_upto_region 2 with fail
  go_region_with (go_at_call 90; refine (hb _ (by (repeat' (first | (with_reducible exact Below.refl _ _) | (with_reducible refine Below.alloc ?_ (by go_size) _) | (with_reducible refine Below.drew ?_))))).mono ?_; rintro e w1 ⟨rfl, hb1⟩; obtain ⟨hc1, hf1⟩ := bcell hb1; have z1 := hb1.size; simp only [World.size_alloc, World.size_drew] at z1 hc1 hf1; have y1 : w.heap.size < w1.heap.size := by omega)
  all_goals go_wp2_with fail
  all_goals go_ret
  all_goals (refine ⟨rfl, ?_⟩)
  all_goals repeat' (first | (with_reducible exact Below.refl _ _) | (with_reducible refine Below.alloc ?_ (by go_size) _) | (with_reducible refine Below.drew ?_) | (with_reducible refine Below.set ?_ (by omega) _) | (with_reducible refine Below.after ?_ (by with_reducible assumption) (by go_size)))

end Go.Proofs.YtmleipmilmeclaaDoor
