/- Walks: all that is within a value (the iterator). -/
import Derived.RangeFuncNested
import Derived.RangeFuncBound
import Derived.RangeFuncCalls
import Derived.RangeFuncLeaves
import Derived.Shelf.Abstract
import Derived.Shelf.RegionOpen
import Derived.WalkKit
import Derived.OwnWalkIn
import Derived.TacticsInMore
import Derived.LoopNIn
import Derived.LoopIn
import Derived.Test.YtmleipmilmeclaaDoorXWk
namespace Go.Proofs.YtmleipmilmeclaaDoor
open Go.RowKit Go.Shelf
attribute [local go_sem] Oper.semAt_some

theorem room_of_none {F : Fence} (hd : F.depth = none) (k : Nat) : F.room k := fun d h => by rw [hd] at h; cases h
theorem RoundIn_anyDepth {F : Fence} (hd : F.depth = none) {m m' : Nat} {P : Program} {l : Nat} {f : FuncId} {tmps : Array Value} {assign body : Code} {w : World} {R : Ending → World → Prop}
    (h : RoundIn F m P l f tmps assign body w R) : RoundIn F m' P l f tmps assign body w R := ⟨h.1, fun c cs _ => h.2 c cs (room_of_none hd _)⟩
theorem YieldAt_anyDepth {F : Fence} (hd : F.depth = none) {m : Nat} (m' : Nat) {P : Program} {l : Nat} {args : Array Value} {W : World} {R : Ending → World → Prop} (h : YieldAt F m P l args W R) : YieldAt F m' P l args W R := by
  obtain ⟨fn, tmps, assign, body, hy, hR⟩ := h
  exact ⟨fn, tmps, assign, body, hy, RoundIn_anyDepth hd hR⟩

/-- A value within a value: how many hold it, its cells, whether it is one of its kind, and that the program says so. -/
structure Node (n₀ : Nat) (w : World) where
  lv : Int
  l0 : 0 ≤ lv
  l1 : lv < 4611686018427387904
  v : V5
  ok : Bool
  is : ∀ W, Below n₀ w W → Calls Tryd.prog 73 #[v.v] W fun e w' => e = .returned (.bool ok) ∧ Below W.heap.size W w'

structure KidAt (W : World) (b o : Nat) (v : V5) : Prop where
  a0 : W.cell? ⟨b, o, none⟩ = some (.int .i64 v.k)
  a1 : W.cell? ⟨b, o + 1, none⟩ = some (.int .i64 v.n)
  a2 : W.cell? ⟨b, o + 2, none⟩ = some (.string v.s)
  a3 : W.cell? ⟨b, o + 3, none⟩ = some (.slice v.p v.np v.cp)
  a4 : W.cell? ⟨b, o + 4, none⟩ = some (.slice v.q v.nq v.cq)

theorem KidAt.below {n₀ : Nat} {A B : World} (h : Below n₀ A B) {b o : Nat} (hb : b < n₀) {v : V5} (k : KidAt A b o v) : KidAt B b o v :=
  ⟨(h.cell (p := ⟨b, o, none⟩) hb).trans k.a0, (h.cell (p := ⟨b, o + 1, none⟩) hb).trans k.a1, (h.cell (p := ⟨b, o + 2, none⟩) hb).trans k.a2, (h.cell (p := ⟨b, o + 3, none⟩) hb).trans k.a3, (h.cell (p := ⟨b, o + 4, none⟩) hb).trans k.a4⟩

/-- A value, and all that is within it, in order. -/
def Pre (n₀ : Nat) (w W : World) : Nat → Int → V5 → List (Node n₀ w) → Prop
  | 0, _, _, _ => False
  | h + 1, lv, v, L => ∃ (x : Node n₀ w) (Ks : List (V5 × List (Node n₀ w))), x.lv = lv ∧ x.v = v ∧ L = x :: (Ks.map (·.2)).flatten ∧ (v.np = Ks.length ∧ Ks.length < 4611686018427387904) ∧
      (Ks = [] ∨ ∃ b o, v.p = some ⟨b, o, none⟩ ∧ b < n₀ ∧ ∀ i (hi : i < Ks.length), KidAt W b (o + i * 5) Ks[i].1) ∧ ∀ i (hi : i < Ks.length), Pre n₀ w W h (lv + 1) Ks[i].1 Ks[i].2

theorem Pre.below {n₀ : Nat} {w A B : World} (h : Below n₀ A B) : ∀ {k : Nat} {lv : Int} {v : V5} {L : List (Node n₀ w)}, Pre n₀ w A k lv v L → Pre n₀ w B k lv v L
  | 0, _, _, _, hp => hp
  | _ + 1, _, _, _, ⟨x, Ks, h1, h2, h3, h4, h5, h6⟩ => ⟨x, Ks, h1, h2, h3, h4, h5.imp id fun ⟨b, o, hp, hb, hk⟩ => ⟨b, o, hp, hb, fun i hi => (hk i hi).below h hb⟩, fun i hi => Pre.below h (h6 i hi)⟩

/-- What a round that goes on keeps: what lay ahead of the walk, and the cells that the iterator has laid. -/
def Kept (n₀ n₁ : Nat) (W W' : World) : Prop := Below n₀ W W' ∧ ∀ b cs T f, n₁ ≤ b → W.heap[b]? = some (.cells cs T f) → W'.heap[b]? = some (.cells cs T f)

theorem Kept.refl (n₀ n₁ : Nat) (W : World) : Kept n₀ n₁ W W := ⟨Below.refl _ _, fun _ _ _ _ _ h => h⟩
theorem Kept.trans {n₀ n₁ : Nat} {A B C : World} (h : Kept n₀ n₁ A B) (k : Kept n₀ n₁ B C) : Kept n₀ n₁ A C := ⟨h.1.trans k.1, fun b cs T f hb hA => k.2 b cs T f hb (h.2 b cs T f hb hA)⟩
theorem Kept.alloc {n₀ n₁ : Nat} {A B : World} (h : Kept n₀ n₁ A B) (hn : n₀ ≤ B.heap.size) (o : Obj) : Kept n₀ n₁ A (B.alloc o) :=
  ⟨h.1.alloc hn o, fun b cs T f hb hA => (Below.heap_alloc B o b (Array.getElem?_eq_some_iff.1 (h.2 b cs T f hb hA)).1).trans (h.2 b cs T f hb hA)⟩
theorem Kept.blk {n₀ n₁ : Nat} {A B : World} (h : Kept n₀ n₁ A B) {b : Nat} {cs : Array Value} {T : TypeId} (hb : n₁ ≤ b) (k : Blk A b cs T) : Blk B b cs T := h.2 b cs T _ hb k
theorem kept_b {n₀ n₁ : Nat} {w : World} (hn : n₀ ≤ w.heap.size) (W : World) (l : Nat) (o o' : Obj) (hl : w.heap.size ≤ l) (h : W.heap[l]? = some o) (hc : o.isCells = false) (hw : o.isWalk = false) : Kept n₀ n₁ W (W.putObj l o') :=
  ⟨belowK_b hn W l o o' hl h hc hw, fun b cs T f hb hA => (World.putObj_heap_other (by rintro rfl; rw [h] at hA; cases hA; cases hc)).trans hA⟩

theorem flat_take {α : Type} (Ls : List (List α)) (i : Nat) (hi : i < Ls.length) : (Ls.take (i + 1)).flatten = (Ls.take i).flatten ++ Ls[i] := by
  rw [List.take_succ_eq_append_getElem hi, List.flatten_append, List.flatten_singleton]

theorem flat_len {α : Type} (Ls : List (List α)) (i : Nat) (hi : i < Ls.length) : (Ls.take i).flatten.length + Ls[i].length ≤ Ls.flatten.length := by
  have h := flat_take Ls i hi
  have : Ls.flatten = (Ls.take (i + 1)).flatten ++ (Ls.drop (i + 1)).flatten := by rw [← List.flatten_append, List.take_append_drop]
  rw [this, h]; simp

theorem flat_pre {α : Type} (Ls : List (List α)) (i : Nat) (hi : i < Ls.length) (q : List α) (hq : q <+: Ls[i]) : (Ls.take i).flatten ++ q <+: Ls.flatten := by
  have h := flat_take Ls i hi
  have : Ls.flatten = (Ls.take (i + 1)).flatten ++ (Ls.drop (i + 1)).flatten := by rw [← List.flatten_append, List.take_append_drop]
  obtain ⟨r, hr⟩ := hq
  rw [this, h, ← hr]
  exact ⟨r ++ (Ls.drop (i + 1)).flatten, by simp [List.append_assoc]⟩

theorem abides_alloc {β : Type} {B : Nat} {J : β → World → Prop} (hJ : AbidesFrom B J) {s : β} {W : World} (h : J s W) (o : Obj) : J s (W.alloc o) :=
  hJ s W _ none h (World.grownBy_alloc W o none) (by simp)

set_option maxRecDepth 100000 in
set_option maxHeartbeats 4000000 in
theorem into_in (F : Fence) (hd : F.depth = none) (h84 : F.fn 84) (hro : F.round = none) (l n₀ n₁ N By Bw B₀ : Nat) (w : World) (J Jx : List (Node n₀ w) → World → Prop) (hJ : AbidesFrom B₀ J) (hn : n₀ ≤ n₁) (hBy : n₁ ≤ By) (hBw : n₁ ≤ Bw)
    (hY : ∀ m pre (x : Node n₀ w) W, J pre W → pre.length < N → YieldAt F m Tryd.prog l #[.int .i64 x.lv, x.v.v] W fun e W' =>
      (e = .returned (.bool true) ∧ J (pre ++ [x]) W' ∧ Kept n₀ n₁ W W') ∨ (e = .returned (.bool false) ∧ Jx (pre ++ [x]) W')) :
    ∀ (h n : Nat) (lv : Int) (v : V5) (L pre : List (Node n₀ w)) (W : World), Pre n₀ w W h lv v L → Blk W By #[.func (.yield l) #[] #[]] 128 → Blk W Bw #[.func (.func 84) #[] #[.pointer (some ⟨By, 0, none⟩), .pointer (some ⟨Bw, 0, none⟩)]] 128 → J pre W → pre.length + L.length ≤ N → 0 ≤ lv → lv + h < 4611686018427387904 →
      CallsIn F n Tryd.prog 84 #[.int .i64 lv, v.v, .pointer (some ⟨By, 0, none⟩), .pointer (some ⟨Bw, 0, none⟩)] W fun e W' =>
        (e = .returned (.bool true) ∧ J (pre ++ L) W' ∧ Kept n₀ n₁ W W') ∨ (e = .returned (.bool false) ∧ ∃ q, q <+: L ∧ Jx (pre ++ q) W') := by
  intro h
  induction h with
  | zero => intro n lv v L pre W hp; exact hp.elim
  | succ h ih =>
    intro n lv v L pre W hp ky kw hJ0 hN hlv hlh
    obtain ⟨x, Ks, hxl, hxv, rfl, ⟨hnp, hnb⟩, hks, hpk⟩ := hp
    have hdd : ∀ k : Nat, (F.depth.isSome = true → 1 ≤ k) := fun k h => by rw [hd] at h; cases h
    have z0 := ky.lt
    have z1 := kw.lt
    have zy : By ≠ W.heap.size := by omega
    have cy := ky.cell 0
    have hJ1 := abides_alloc hJ hJ0 (.cells v.cs 39)
    have hlen : pre.length + 1 + (Ks.map (·.2)).flatten.length ≤ N := by simp only [List.length_cons] at hN; omega
    have hy := hY (n - 1) pre x _ hJ1 (by omega)
    rw [hxl, hxv] at hy
    clear hJ1 hN hJ0 hxl hxv
    obtain ⟨vk, vn, vs, vp, vnp, vcp, vq, vnq, vcq⟩ := v
    simp only [V5.v, V5.cs] at hy hnp hks hpk hlv hlh ⊢
    subst hnp
    obtain ⟨fn, tmps, assign, body, hy, hR⟩ := hy
    refine callsIn_of_wp Tryd.func84 rfl h84 ?_ hro
    simp only [Tryd.ntmps84, List.size_toArray, List.length_cons, List.length_nil, Nat.reduceAdd, Nat.reduceSub, Array.replicate_succ, Array.replicate_zero, List.push_toArray, List.append_toArray, List.nil_append, List.cons_append]
    have kb := Blk.new W #[.int .i64 vk, .int .i64 vn, .string vs, .slice vp Ks.length vcp, .slice vq vnq vcq] 39
    have hN' := Lib.hid hlen
    have hJ' := Lib.hid hJ
    have hih := Lib.hid ih
    have hks' := Lib.hid hks
    have hpk' := Lib.hid hpk
    have hY' := Lib.hid hY
    clear ih hks hpk hY hlen hJ
    gi_wp2_with ((try refine ⟨hdd _, ?_⟩); refine hR.mono ?_; clear hR; rintro e W2 (⟨rfl, hJ2, hk2⟩ | ⟨rfl, hx2⟩); have kx2 := hk2.blk (by omega) kb; have ky2 := hk2.blk hBy (ky.alloc _); have kw2 := hk2.blk hBw (kw.alloc _); have cx3 := kx2.cell 3; have hb2 := hk2.1)
    · clear hy zy cy
      gi_loopw [17] (fun p wr => ∃ i : Nat, p = .int .i64 (i : Int) ∧ i ≤ Ks.length ∧ J (pre ++ x :: ((Ks.map (·.2)).take i).flatten) wr ∧ Kept n₀ n₁ W2 wr) (fun p wr => Ks.length - (intOf p).toNat)
      case atStart => exact ⟨0, rfl, by omega, by simpa using hJ2, Kept.refl _ _ _⟩
      case round =>
        obtain ⟨i, rfl, hi, hJ3, hk3⟩ := hrel
        have kwr := hk3.blk hBw kw2
        have kyr := hk3.blk hBy ky2
        have hbr : Below n₀ W wr := ((Below.refl _ W).alloc (by omega) _).trans (hb2.trans hk3.1)
        have zr := hbr.size
        have zr1 := kwr.lt
        by_cases hlt : i < Ks.length
        · obtain ⟨b, o, hvp, hb, hkid⟩ := hks'.out.resolve_left (by rintro rfl; simp at hlt)
          subst hvp
          obtain ⟨a0, a1, a2, a3, a4⟩ := (hkid i hlt).below hbr hb
          have hp := (hpk'.out i hlt).below hbr
          have hfl := flat_take (Ks.map (·.2)) i (by simpa using hlt)
          have hfl2 := flat_len (Ks.map (·.2)) i (by simpa using hlt)
          have hfp := fun q => flat_pre (Ks.map (·.2)) i (by simpa using hlt) q
          simp only [List.getElem_map] at hfl hfl2 hfp
          generalize Ks[i].1 = u at *
          generalize Ks[i].2 = LL at *
          clear hkid
          obtain ⟨uk, un, us, up, unp, ucp, uq, unq, ucq⟩ := u
          simp only [] at a0 a1 a2 a3 a4 hp
          have hc := hih.out (n - 1) (lv + 1) _ LL _ (wr.alloc (.cells #[.int .i64 uk, .int .i64 un, .string us, .slice up unp ucp, .slice uq unq ucq] 39)) (hp.below ((Below.refl _ wr).alloc (by omega) _)) (kyr.alloc _) (kwr.alloc _) (abides_alloc hJ'.out hJ3 _) (by have := hN'.out; simp only [List.length_append, List.length_cons]; omega) (by omega) (by omega)
          simp only [V5.v, V5.cs] at hc
          have cwr := kwr.cell 0
          have hF := Lib.hid hfl
          have hF2 := Lib.hid hfp
          clear hfl hfp hp
          gi_wp2_with ((try refine ⟨hdd _, ?_⟩); gi_at_call 84; refine hc.mono ?_; clear hc; rintro e W3 (⟨rfl, hJ4, hk4⟩ | ⟨rfl, q, hq, hx4⟩))
          · go_roundw
            case rel => exact ⟨i + 1, by simp, by omega, by rw [hF.out]; simpa [List.append_assoc] using hJ4, hk3.trans (((Kept.refl _ _ _).alloc (by omega) _).trans hk4)⟩
            case measure => simp [intOf]; omega
          · go_ret
            refine .inr ⟨rfl, x :: (((Ks.map (·.2)).take i).flatten ++ q), ?_, by simpa [List.append_assoc] using hx4⟩
            obtain ⟨r, hr⟩ := hF2.out q hq
            exact ⟨r, by rw [← hr]; simp [List.append_assoc]⟩
        · obtain rfl : i = Ks.length := by omega
          gi_wp2
          go_ret
          refine .inl ⟨rfl, ?_, ((Kept.refl _ _ _).alloc (by omega) _).trans (hk2.trans hk3)⟩
          rw [List.take_of_length_le (by simp)] at hJ3
          exact hJ3
    · go_ret
      exact .inr ⟨rfl, [x], ⟨_, rfl⟩, hx2⟩

end Go.Proofs.YtmleipmilmeclaaDoor

/- Walks: a value's measure. -/
namespace Go.Proofs.YtmleipmilmeclaaDoor
open Go.RowKit Go.Shelf
attribute [local go_sem] Oper.semAt_some

set_option maxRecDepth 100000 in
set_option maxHeartbeats 4000000 in
theorem all1_in (F : Fence) (hd : F.depth = none) (n : Nat) (h83 : F.fn 83) (h84 : F.fn 84) (hro : F.round = none) (l n₀ n₁ Bv : Nat) (w : World) (J Jx : List (Node n₀ w) → World → Prop) (hn : n₀ ≤ n₁) (v : V5) (L : List (Node n₀ w)) (h : Nat) (hh : h < 4611686018427387904)
    (W : World) (hJ : AbidesFrom W.heap.size J) (hW : n₁ ≤ W.heap.size)
    (hY : ∀ m pre (x : Node n₀ w) W, J pre W → pre.length < L.length → YieldAt F m Tryd.prog l #[.int .i64 x.lv, x.v.v] W fun e W' =>
      (e = .returned (.bool true) ∧ J (pre ++ [x]) W' ∧ Kept n₀ n₁ W W') ∨ (e = .returned (.bool false) ∧ Jx (pre ++ [x]) W'))
    (hv : Blk W Bv v.cs 39) (hp : Pre n₀ w W h 0 v L) (h0 : J [] W) :
    CallsIn F n Tryd.prog 83 #[.func (.yield l) #[] #[], .pointer (some ⟨Bv, 0, none⟩)] W fun e W' => (∃ v, e = .returned v) ∧
      ((∃ ys, ys = L ∧ J ys W') ∨ (∃ pre, pre <+: L ∧ Jx pre W')) := by
  have hdd : ∀ k : Nat, (F.depth.isSome = true → 1 ≤ k) := fun k h => by rw [hd] at h; cases h
  obtain ⟨vk, vn, vs, vp, vnp, vcp, vq, vnq, vcq⟩ := v
  have ky := (Blk.new W #[.func (.yield l) #[] #[]] 128).alloc (.cells #[.func (.func 84) #[] #[.pointer (some ⟨W.heap.size, 0, none⟩), .pointer (some ⟨W.heap.size + 1, 0, none⟩)]] 128)
  have kw := Blk.new (W.alloc (.cells #[.func (.yield l) #[] #[]] 128)) #[.func (.func 84) #[] #[.pointer (some ⟨W.heap.size, 0, none⟩), .pointer (some ⟨W.heap.size + 1, 0, none⟩)]] 128
  rw [World.size_alloc] at kw
  have hc := into_in F hd h84 hro l n₀ n₁ L.length W.heap.size (W.heap.size + 1) W.heap.size w J Jx hJ hn hW (by omega) hY h (n - 1) 0 ⟨vk, vn, vs, vp, vnp, vcp, vq, vnq, vcq⟩ L [] _ (hp.below (((Below.refl _ W).alloc (by omega) _).alloc (by go_size) _)) ky kw (abides_alloc hJ (abides_alloc hJ h0 _) _) (by simp) (by omega) (by omega)
  simp only [V5.v, V5.cs] at hc hv
  have z0 := hv.lt
  have c0 := hv.cell 0
  have c1 := hv.cell 1
  have c2 := hv.cell 2
  have c3 := hv.cell 3
  have c4 := hv.cell 4
  clear hY hp hJ
  refine callsIn_of_wp Tryd.func83 rfl h83 ?_ hro
  simp only [Tryd.ntmps83, List.size_toArray, List.length_cons, List.length_nil, Nat.reduceAdd, Nat.reduceSub, Array.replicate_succ, Array.replicate_zero, List.push_toArray, List.append_toArray, List.nil_append, List.cons_append]
  gi_wp2_with ((try refine ⟨hdd _, ?_⟩); gi_at_call 84; refine hc.mono ?_; clear hc; rintro e W1 (⟨rfl, hJ1, _⟩ | ⟨rfl, q, hq, hx⟩))
  · go_end0
    exact ⟨⟨_, rfl⟩, .inl ⟨_, rfl, by simpa using hJ1⟩⟩
  · go_end0
    exact ⟨⟨_, rfl⟩, .inr ⟨q, hq, by simpa using hx⟩⟩

set_option maxHeartbeats 1000000 in
theorem allv_in (F : Fence) (n : Nat) (h72 : F.fn 72) (hro : F.round = none) (v : V5) (w : World) :
    CallsIn F n Tryd.prog 72 #[v.v] w fun e w' => e = .returned (.func (.func 83) #[] #[.pointer (some ⟨w.heap.size, 0, none⟩)]) ∧ w' = w.alloc (.cells v.cs 39) := by
  obtain ⟨vk, vn, vs, vp, vnp, vcp, vq, vnq, vcq⟩ := v
  refine callsIn_of_wp Tryd.func72 rfl h72 ?_ hro
  simp only [Tryd.ntmps72, List.size_toArray, List.length_cons, List.length_nil, Nat.reduceAdd, Nat.reduceSub, Array.replicate_succ, Array.replicate_zero, List.push_toArray, List.append_toArray, List.nil_append, List.cons_append]
  gi_wp2
  go_ret
  exact ⟨rfl, rfl⟩

theorem allv_stops (F : Fence) (hd : F.depth = none) (n : Nat) (h83 : F.fn 83) (h84 : F.fn 84) (hro : F.round = none) (n₀ n₁ Bv : Nat) (w : World) (hn : n₀ ≤ n₁) (v : V5) (L : List (Node n₀ w)) (h : Nat) (hh : h < 4611686018427387904)
    (w1 : World) (hn1 : n₁ ≤ w1.heap.size) (hv : Blk w1 Bv v.cs 39) (hp : Pre n₀ w w1 h 0 v L) :
    SeqStopsK F n Tryd.prog 83 #[.pointer (some ⟨Bv, 0, none⟩)] (fun x : Node n₀ w => #[.int .i64 x.lv, x.v.v]) (Kept n₀ n₁) (fun ys => ys = L) (fun pre => pre <+: L) L.length w1 := fun l J Jx W hW hJ _ hY h0 =>
  all1_in F hd n h83 h84 hro l n₀ n₁ Bv w J Jx hn v L h hh W hJ (Nat.le_trans hn1 hW.size) (fun m pre x W hj hl => YieldAt_anyDepth hd m (hY pre x W hj hl)) (hv.below hW hv.lt) (hp.below (hW.mono (Nat.le_trans hn hn1))) h0

end Go.Proofs.YtmleipmilmeclaaDoor
