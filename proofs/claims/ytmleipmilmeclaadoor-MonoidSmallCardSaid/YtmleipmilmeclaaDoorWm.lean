/- Walks: a value's measure. -/
import Derived.Test.YtmleipmilmeclaaDoorWl
namespace Go.Proofs.YtmleipmilmeclaaDoor
open Go.RowKit Go.Shelf
attribute [local go_sem] Oper.semAt_some

set_option maxRecDepth 100000 in
set_option maxHeartbeats 4000000 in
theorem all1_in (F : Fence) (hd : F.depth = none) (n : Nat) (h83 : F.fn 83) (h84 : F.fn 84) (hro : F.round = none) (l n₀ n₁ Bv : Nat) (w : World) (J Jx : List (Node n₀ w) → World → Prop) (hn : n₀ ≤ n₁) (v : V5) (L : List (Node n₀ w)) (h : Nat) (hh : h < 4611686018427387904)
    (W : World) (hJ : AbidesFrom W.heap.size J) (hW : n₁ ≤ W.heap.size)
    (hY : ∀ m pre (x : Node n₀ w) W, J pre W → pre.length < L.length → YieldAt F m Tryd.prog l #[.int .i64 x.lv, x.v.v] W fun e W' =>
      (e = .returned (.bool true) ∧ J (pre ++ [x]) W' ∧ Kept n₀ n₁ W W') ∨ (e = .returned (.bool false) ∧ Jx (pre ++ [x]) W'))
    (hv : Blk W Bv v.cs 39) (hp : Pre n₀ w W h 0 v L) (h0 : J [] W) :
    CallsIn F n Tryd.prog 83 #[.func (.yield l) #[] #[], .pointer (some ⟨Bv, 0, none⟩)] W fun e W' => (∃ v, e = .returned v) ∧
      ((∃ ys, ys = L ∧ J ys W') ∨ (∃ pre, pre <+: L ∧ Jx pre W')) := by
  have hdd : ∀ k : Nat, (F.depth.isSome = true → 1 ≤ k) := fun k h => by rw [hd] at h; cases h
  obtain ⟨vk, vn, vs, vp, vnp, vcp, vq, vnq, vcq⟩ := v
  have ky := (Blk.new W #[.func (.yield l) #[] #[]] 128).alloc (.cells #[.func (.func 84) #[] #[.pointer (some ⟨W.heap.size, 0, none⟩), .pointer (some ⟨W.heap.size + 1, 0, none⟩)]] 128)
  have kw := Blk.new (W.alloc (.cells #[.func (.yield l) #[] #[]] 128)) #[.func (.func 84) #[] #[.pointer (some ⟨W.heap.size, 0, none⟩), .pointer (some ⟨W.heap.size + 1, 0, none⟩)]] 128
  rw [World.size_alloc] at kw
  have hc := into_in F hd h84 hro l n₀ n₁ L.length W.heap.size (W.heap.size + 1) W.heap.size w J Jx hJ hn hW (by omega) hY h (n - 1) 0 ⟨vk, vn, vs, vp, vnp, vcp, vq, vnq, vcq⟩ L [] _ (hp.below (((Below.refl _ W).alloc (by omega) _).alloc (by go_size) _)) ky kw (abides_alloc hJ (abides_alloc hJ h0 _) _) (by simp) (by omega) (by omega)
  simp only [V5.v, V5.cs] at hc hv
  have z0 := hv.lt
  have c0 := hv.cell 0
  have c1 := hv.cell 1
  have c2 := hv.cell 2
  have c3 := hv.cell 3
  have c4 := hv.cell 4
  clear hY hp hJ
  refine callsIn_of_wp Tryd.func83 rfl h83 ?_ hro
  simp only [Tryd.ntmps83, List.size_toArray, List.length_cons, List.length_nil, Nat.reduceAdd, Nat.reduceSub, Array.replicate_succ, Array.replicate_zero, List.push_toArray, List.append_toArray, List.nil_append, List.cons_append]
  gi_wp2_with ((try refine ⟨hdd _, ?_⟩); gi_at_call 84; refine hc.mono ?_; clear hc; rintro e W1 (⟨rfl, hJ1, _⟩ | ⟨rfl, q, hq, hx⟩))
  · go_end0
    exact ⟨⟨_, rfl⟩, .inl ⟨_, rfl, by simpa using hJ1⟩⟩
  · go_end0
    exact ⟨⟨_, rfl⟩, .inr ⟨q, hq, by simpa using hx⟩⟩

set_option maxHeartbeats 1000000 in
theorem allv_in (F : Fence) (n : Nat) (h72 : F.fn 72) (hro : F.round = none) (v : V5) (w : World) :
    CallsIn F n Tryd.prog 72 #[v.v] w fun e w' => e = .returned (.func (.func 83) #[] #[.pointer (some ⟨w.heap.size, 0, none⟩)]) ∧ w' = w.alloc (.cells v.cs 39) := by
  obtain ⟨vk, vn, vs, vp, vnp, vcp, vq, vnq, vcq⟩ := v
  refine callsIn_of_wp Tryd.func72 rfl h72 ?_ hro
  simp only [Tryd.ntmps72, List.size_toArray, List.length_cons, List.length_nil, Nat.reduceAdd, Nat.reduceSub, Array.replicate_succ, Array.replicate_zero, List.push_toArray, List.append_toArray, List.nil_append, List.cons_append]
  gi_wp2
  go_ret
  exact ⟨rfl, rfl⟩

theorem allv_stops (F : Fence) (hd : F.depth = none) (n : Nat) (h83 : F.fn 83) (h84 : F.fn 84) (hro : F.round = none) (n₀ n₁ Bv : Nat) (w : World) (hn : n₀ ≤ n₁) (v : V5) (L : List (Node n₀ w)) (h : Nat) (hh : h < 4611686018427387904)
    (w1 : World) (hn1 : n₁ ≤ w1.heap.size) (hv : Blk w1 Bv v.cs 39) (hp : Pre n₀ w w1 h 0 v L) :
    SeqStopsK F n Tryd.prog 83 #[.pointer (some ⟨Bv, 0, none⟩)] (fun x : Node n₀ w => #[.int .i64 x.lv, x.v.v]) (Kept n₀ n₁) (fun ys => ys = L) (fun pre => pre <+: L) L.length w1 := fun l J Jx W hW hJ _ hY h0 =>
  all1_in F hd n h83 h84 hro l n₀ n₁ Bv w J Jx hn v L h hh W hJ (Nat.le_trans hn1 hW.size) (fun m pre x W hj hl => YieldAt_anyDepth hd m (hY pre x W hj hl)) (hv.below hW hv.lt) (hp.below (hW.mono (Nat.le_trans hn hn1))) h0

end Go.Proofs.YtmleipmilmeclaaDoor
