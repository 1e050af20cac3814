/- Sorting pairs: the comparison. -/
import Derived.Test.YtmleipmilmeclaaDoorXVm
import Derived.Shelf.SlSortCmp.KitK
namespace Go.Proofs.YtmleipmilmeclaaDoor
open Go.RowKit
attribute [local go_sem ↓] Go.wp_at_zero Go.wp_at_succ

/-- Three ways. -/
def cmpS (x y : ByteArray) : Int := if Op.bytesLess x.toList y.toList = true then -1 else if (x.toList == y.toList) = true then 0 else 1

set_option maxHeartbeats 1000000 in
theorem isNaN_any (x : ByteArray) (w : World) : Calls Tryd.prog 63 #[.string x] w fun e w' => e = .returned (.bool false) ∧ w' = w := by
  go_enter Tryd.func63, Tryd.ntmps63
  go_wp2_with fail
  go_ret
  exact ⟨rfl, rfl⟩

set_option maxRecDepth 100000 in
set_option maxHeartbeats 1000000 in
theorem compare_any (x y : ByteArray) (w : World) : Calls Tryd.prog 43 #[.string x, .string y] w fun e w' => e = .returned (.int .i64 (cmpS x y)) ∧ w' = w := by
  unfold cmpS
  have hx := Lib.hid (isNaN_any x)
  have hy := Lib.hid (isNaN_any y)
  generalize h1 : Op.bytesLess x.toList y.toList = b1
  generalize h2 : (x.toList == y.toList) = b2
  cases b1
  · cases b2
    · go_enter Tryd.func43, Tryd.ntmps43
      go_wp2_with (first | (go_at_call 63; refine (hx.out _).mono ?_; rintro e w1 ⟨rfl, rfl⟩) | (go_at_call 63; refine (hy.out _).mono ?_; rintro e w1 ⟨rfl, rfl⟩))
      go_ret
      exact ⟨rfl, rfl⟩
    · go_enter Tryd.func43, Tryd.ntmps43
      go_wp2_with (first | (go_at_call 63; refine (hx.out _).mono ?_; rintro e w1 ⟨rfl, rfl⟩) | (go_at_call 63; refine (hy.out _).mono ?_; rintro e w1 ⟨rfl, rfl⟩))
      go_ret
      exact ⟨rfl, rfl⟩
  · go_enter Tryd.func43, Tryd.ntmps43
    go_wp2_with (first | (go_at_call 63; refine (hx.out _).mono ?_; rintro e w1 ⟨rfl, rfl⟩) | (go_at_call 63; refine (hy.out _).mono ?_; rintro e w1 ⟨rfl, rfl⟩))
    go_ret
    exact ⟨rfl, rfl⟩

end Go.Proofs.YtmleipmilmeclaaDoor

/- Sorting pairs: pairs, their cells; the closure; the kit's insertion sort at this program. -/
namespace Go.Proofs.YtmleipmilmeclaaDoor
open Go.Shelf Go.RowKit Go.Lib Go.Sort
attribute [local go_sem ↓] Go.wp_at_zero Go.wp_at_succ

/-- A pair: a key, a value's cells. -/
structure PV where
  key : ByteArray
  v : V5
instance : Inhabited PV := ⟨⟨⟨#[]⟩, ⟨0, 0, ⟨#[]⟩, none, 0, 0, none, 0, 0⟩⟩⟩
def encP (x : PV) : List Value := [.string x.key, .int .i64 x.v.k, .int .i64 x.v.n, .string x.v.s, .slice x.v.p x.v.np x.v.cp, .slice x.v.q x.v.nq x.v.cq]
def cmpP (x y : PV) : Int := cmpS x.key y.key
theorem encP_len (x : PV) : (encP x).length = 6 := rfl
theorem encP_one (x : PV) : ∀ v ∈ encP x, v.oneCell' = true := fun v hv => by
  simp only [encP, List.mem_cons, List.not_mem_nil, or_false] at hv
  rcases hv with rfl | rfl | rfl | rfl | rfl | rfl <;> rfl

set_option maxHeartbeats 1000000 in
theorem closure_any (x y : PV) (W : World) : Calls Tryd.prog 42 #[.agg (encP x).toArray, .agg (encP y).toArray] W fun e w' => e = .returned (.int .i64 (cmpP x y)) ∧ ∃ q os', w' = grow (W.drewN q) os' := by
  have hcon := Lib.hid (fun W' => compare_any x.key y.key W')
  unfold cmpP
  obtain ⟨xk, ⟨k, n, s, p, np, cp, q, nq, cq⟩⟩ := x
  obtain ⟨yk, ⟨k', n', s', p', np', cp', q', nq', cq'⟩⟩ := y
  simp only [encP] at hcon ⊢
  generalize cmpS xk yk = r at *
  go_enter Tryd.func42, Tryd.ntmps42
  go_wp2_with (go_at_call 43; refine (hcon.out _).mono ?_; rintro e w' ⟨rfl, rfl⟩)
  go_ret
  exact ⟨rfl, 0, _, by rw [alloc_eq_grow, alloc_eq_grow, grow_grow]; rfl⟩

theorem cmpLaysP (blk off size : Nat) (w : World) : CmpLays Tryd.prog 42 #[] encP 6 cmpP blk off size w :=
  fun _ _ _ _ x y => closure_any x y _

def renS : Ren := ⟨fun f => if f = 20 then 80 else f, fun t => if t = 22 then 48 else if t = 24 then 56 else if t = 25 then 85 else t, fun g => g⟩

set_option maxRecDepth 100000 in
theorem insLays : SlLaysF0.n20 Tryd.prog renS where
  mixed := by kernel_rfl
  f20 := ⟨_, by decide, Tryd.func80⟩
  t0 := by kernel_rfl
  a0 := fun w => by kernel_rfl
  z0 := fun w => by kernel_rfl
  v0 := fun w => by kernel_rfl
  t3 := by kernel_rfl
  a3 := fun w => by kernel_rfl
  z3 := fun w => by kernel_rfl
  v3 := fun w => by kernel_rfl
  t4 := by kernel_rfl
  a4 := fun w => by kernel_rfl
  z4 := fun w => by kernel_rfl
  v4 := fun w => by kernel_rfl
  t22 := by kernel_rfl
  a22 := fun w => by kernel_rfl
  z22 := fun w => by kernel_rfl
  v22 := fun w => by kernel_rfl
  t25 := by kernel_rfl
  a25 := fun w => by kernel_rfl
  z25 := fun w => by kernel_rfl
  v25 := fun w => by kernel_rfl

end Go.Proofs.YtmleipmilmeclaaDoor
