/- Walks: a value's measure. -/
import Derived.Test.YtmleipmilmeclaaDoorXWl
namespace Go.Proofs.YtmleipmilmeclaaDoor
open Go.RowKit Go.Shelf
attribute [local go_sem] Oper.semAt_some

set_option maxHeartbeats 1000000 in
theorem holds_any (k : Int) (w : World) : Calls Tryd.prog 59 #[.int .i64 k] w fun e w' => e = .returned (.bool (decide (k = 5 ∨ k = 6))) ∧ w' = w := by
  go_enter Tryd.func59, Tryd.ntmps59
  go_wp2_with fail
  all_goals go_ret
  all_goals (refine ⟨?_, rfl⟩; by_cases h5 : k = 5 <;> by_cases h6 : k = 6 <;> simp_all)

/-- How deep nodes are. -/
def depN {n₀ : Nat} {w : World} (d : Int) (x : Node n₀ w) : Int := if x.v.k = 5 ∨ x.v.k = 6 then max d (x.lv + 1) else d
def dep {n₀ : Nat} {w : World} (L : List (Node n₀ w)) : Int := L.foldl depN 0
theorem dep_snoc {n₀ : Nat} {w : World} (L : List (Node n₀ w)) (x : Node n₀ w) : dep (L ++ [x]) = depN (dep L) x := by simp [dep]
theorem depN_le {n₀ : Nat} {w : World} (d : Int) (x : Node n₀ w) : d ≤ depN d x := by unfold depN; split <;> omega
theorem dep_le {n₀ : Nat} {w : World} (L : List (Node n₀ w)) : ∀ d, d ≤ L.foldl depN d := by
  induction L with
  | nil => intro d; exact Int.le_refl _
  | cons x L ih => intro d; exact Int.le_trans (depN_le d x) (ih _)
def Good {n₀ : Nat} {w : World} (L : List (Node n₀ w)) : Prop := L.length ≤ 256 ∧ dep L ≤ 8 ∧ ∀ x ∈ L, x.ok = true
theorem Good.pre {n₀ : Nat} {w : World} {q L : List (Node n₀ w)} (h : Good L) (hq : q <+: L) : Good q := by
  obtain ⟨r, rfl⟩ := hq
  obtain ⟨h1, h2, h3⟩ := h
  refine ⟨by simp at h1; omega, Int.le_trans ?_ h2, fun x hx => h3 x (by simp [hx])⟩
  unfold dep
  rw [List.foldl_append]
  exact dep_le r _

theorem others_of_below {W W' : World} (h : Below W.heap.size W W') : KeepsOthers W W' := ⟨h.size, fun k _ hk _ => (h.block k (Array.getElem?_eq_some_iff.1 hk).1).trans hk⟩
theorem kept_of_below {n₀ n₁ : Nat} {W W' : World} (h : Below W.heap.size W W') (hn : n₀ ≤ W.heap.size) : Kept n₀ n₁ W W' := ⟨h.mono hn, fun b _ _ _ _ hk => (h.block b (Array.getElem?_eq_some_iff.1 hk).1).trans hk⟩
theorem Kept.setCell {n₀ n₁ : Nat} {A B : World} (h : Kept n₀ n₁ A B) {b o : Nat} (h0 : n₀ ≤ b) (h1 : b < n₁) (u : Value) : Kept n₀ n₁ A (B.setCell ⟨b, o, none⟩ u) :=
  ⟨h.1.setCell h0 u, fun k cs T f hk hA => (Below.heap_setCell B ⟨b, o, none⟩ u k (by simp only []; omega)).trans (h.2 k cs T f hk hA)⟩

theorem Blk.one {w : World} {b : Nat} {p : Value} {T : TypeId} (h : Blk w b #[p] T) (x : Value) : Blk (w.setCell ⟨b, 0, none⟩ x) b #[x] T := Boxed.set x h

theorem good_snoc {n₀ : Nat} {w : World} {L : List (Node n₀ w)} (h : Good L) (x : Node n₀ w) : Good (L ++ [x]) ↔ L.length + 1 ≤ 256 ∧ depN (dep L) x ≤ 8 ∧ x.ok = true := by
  unfold Good
  rw [dep_snoc]
  constructor
  · rintro ⟨h1, h2, h3⟩
    exact ⟨by simpa using h1, h2, h3 x (by simp)⟩
  · rintro ⟨h1, h2, h3⟩
    refine ⟨by simpa using h1, h2, fun y hy => ?_⟩
    rcases List.mem_append.1 hy with hy | hy
    · exact h.2.2 y hy
    · simp at hy; rw [hy]; exact h3

theorem dep_nonneg {n₀ : Nat} {w : World} (L : List (Node n₀ w)) : 0 ≤ dep L := dep_le L 0

def MI {n₀ : Nat} {w0 : World} (w : World) (s : Nat) (b : Bool) (pre : List (Node n₀ w0)) (W : World) : Prop :=
  s + 5 ≤ W.heap.size ∧ Boxed W (s + 1) 3 (.int .i64 (dep pre)) ∧ Boxed W (s + 1 + 1) 3 (.int .i64 (pre.length : Int)) ∧ Boxed W (s + 1 + 1 + 1) 4 (.bool b) ∧ Below s w W

theorem MI.own {n₀ : Nat} {w0 w : World} {s B : Nat} {b : Bool} (hB : w.heap.size ≤ B) (hs : s ≤ w.heap.size) (p : List (Node n₀ w0) → Prop) : OwnFrom B (fun pre W => p pre ∧ MI w s b pre W) :=
  OwnFrom.and (ownFrom_pure _ p) (OwnFrom.and (fun _ _ _ _ h hg _ => Nat.le_trans h hg.size) (OwnFrom.and (Own.from (boxed_own _ _ (fun pre => Value.int .i64 (dep pre))) _) (OwnFrom.and (Own.from (boxed_own _ _ (fun (pre : List (Node n₀ w0)) => Value.int .i64 (pre.length : Int))) _) (OwnFrom.and (Own.from (boxed_own _ _ (fun _ => Value.bool b)) _) (ownFrom_below hs (Nat.le_trans hs hB))))))

set_option maxRecDepth 100000 in
set_option maxHeartbeats 4000000 in
theorem measure_any (v : V5) (w0 w : World) (hb0 : Below w0.heap.size w0 w) (L : List (Node w0.heap.size w0)) (h : Nat) (hh : h < 4611686018427387904) (hp : Pre w0.heap.size w0 w h 0 v L) :
    Calls Tryd.prog 54 #[v.v] w fun e w' => (∃ (d m : Int) (b : Bool), e = .returned (.tuple #[.int .i64 d, .int .i64 m, .bool b]) ∧ (b = true ↔ Good L) ∧ (b = true → d = dep L ∧ m = (L.length : Int))) ∧ Below w.heap.size w w' := by
  obtain ⟨vk, vn, vs, vp, vnp, vcp, vq, vnq, vcq⟩ := v
  refine (callsIn_wide (n := 3)).1 ?_
  refine callsIn_of_wp_marks Tryd.func54 rfl trivial ?_ rfl
  simp only [Tryd.ntmps54, List.size_toArray, List.length_cons, List.length_nil, Nat.reduceAdd, Nat.reduceSub, Array.replicate_succ, Array.replicate_zero, List.push_toArray, List.append_toArray, List.nil_append, List.cons_append]
  have hp' := Lib.hid hp
  have hs0 := hb0.size
  have hb0' := Lib.hid hb0
  clear hp hb0
  gi_wp2_with ((try refine ⟨trivial, ?_⟩); gi_at_call 72; refine (allv_in Fence.wide _ trivial rfl ⟨vk, vn, vs, vp, vnp, vcp, vq, vnq, vcq⟩ _).mono ?_; rintro e w' ⟨rfl, rfl⟩)
  refine wpIn_wide.2 ?_
  apply wp_scope_straight
  refine (wpIn_wide (n := 3)).1 ?_
  gi_wp2_with fail
  apply wpIn_label
  gi_wp2_with ((try refine ⟨trivial, ?_⟩); gi_at_call 72; refine (allv_in Fence.wide _ trivial rfl ⟨vk, vn, vs, vp, vnp, vcp, vq, vnq, vcq⟩ _).mono ?_; rintro e w' ⟨rfl, rfl⟩)
  simp only [V5.v, V5.cs]
  obtain ⟨W0, hW0⟩ : ∃ W0, (((((w.alloc (.cells #[.int .i64 vk, .int .i64 vn, .string vs, .slice vp vnp vcp, .slice vq vnq vcq] 39)).alloc (.cells #[.int .i64 0] 3)).alloc (.cells #[.int .i64 0] 3)).alloc (.cells #[.bool true] 4)).alloc (.cells #[.int .i64 vk, .int .i64 vn, .string vs, .slice vp vnp vcp, .slice vq vnq vcq] 39)) = W0 := ⟨_, rfl⟩
  have hsz : W0.heap.size = w.heap.size + 5 := by rw [← hW0]; simp
  have hB0 : Below w.heap.size w W0 := by
    rw [← hW0]
    exact (((((Below.refl _ w).alloc (Nat.le_refl _) _).alloc (by go_size) _).alloc (by go_size) _).alloc (by go_size) _).alloc (by go_size) _
  have bD : Blk W0 (w.heap.size + 1) #[.int .i64 0] 3 := by rw [← hW0]; exact (((Blk.new' (by simp)).alloc _).alloc _).alloc _
  have bN : Blk W0 (w.heap.size + 1 + 1) #[.int .i64 0] 3 := by rw [← hW0]; exact ((Blk.new' (by simp)).alloc _).alloc _
  have bO : Blk W0 (w.heap.size + 1 + 1 + 1) #[.bool true] 4 := by rw [← hW0]; exact (Blk.new' (by simp)).alloc _
  have bV : Blk W0 (w.heap.size + 1 + 1 + 1 + 1) #[.int .i64 vk, .int .i64 vn, .string vs, .slice vp vnp vcp, .slice vq vnq vcq] 39 := by rw [← hW0]; exact Blk.new' (by simp)
  rw [hW0]
  clear hW0
  refine wpIn_rangeFunc_ownH rfl (by omega) (gf := 83) (lb := #[.pointer (some ⟨w.heap.size + 1 + 1 + 1 + 1, 0, none⟩)]) rfl trivial (enters_of Tryd.func83 (by kernel_rfl) rfl)
    (allv_stops Fence.wide rfl (3 - 1) trivial trivial rfl w0.heap.size W0.heap.size (w.heap.size + 1 + 1 + 1 + 1) w0 (by omega) ⟨vk, vn, vs, vp, vnp, vcp, vq, vnq, vcq⟩ L h hh W0 (Nat.le_refl _) bV (hp'.out.below (hB0.mono hs0))) (fun h k => h.trans k) (kept_b (by omega)) (Below.refl _ _) (fun _ => rfl)
    (fun pre W => Good pre ∧ MI w w.heap.size true pre W)
    (fun c pre W => (c = Code.exit 0 ∧ ¬ Good pre) ∧ MI w w.heap.size false pre W)
    (MI.own (by omega) (by omega) _)
    (fun c => MI.own (by omega) (by omega) (fun pre => c = Code.exit 0 ∧ ¬ Good pre))
    ⟨⟨by simp, by simp [dep], by simp⟩, by omega, bD, bN, bO, hB0⟩
    (fun x a' W => ∃ Bx, W0.heap.size ≤ Bx ∧ Blk W Bx x.v.cs 39 ∧ a' = { tmps := #[.agg #[.int .i64 vk, .int .i64 vn, .string vs, .slice vp vnp vcp, .slice vq vnq vcq], .pointer (some ⟨w.heap.size, 0, none⟩), .pointer (some ⟨w.heap.size + 1, 0, none⟩), .pointer (some ⟨w.heap.size + 1 + 1, 0, none⟩), .pointer (some ⟨w.heap.size + 1 + 1 + 1, 0, none⟩), .int .i64 x.lv, .pointer (some ⟨Bx, 0, none⟩), .agg #[.int .i64 vk, .int .i64 vn, .string vs, .slice vp vnp vcp, .slice vq vnq vcq], .func (.func 83) #[] #[.pointer (some ⟨w.heap.size + 1 + 1 + 1 + 1, 0, none⟩)], .int .i64 x.lv, x.v.v, undef, undef, undef, undef, undef, undef, undef, undef, undef, undef, undef, undef, undef, undef, undef, undef, undef, undef, undef, undef, undef, undef, undef, undef], defers := [] })
    (fun x a' _ X Y row hs hg hr => by obtain ⟨Bx, h1, h2, h3⟩ := hs; exact ⟨Bx, h1, (hg.block Bx h2.lt (fun e => by obtain ⟨_, o, ho, hc⟩ := hr Bx e.symm; rw [show X.heap[Bx]? = _ from h2] at ho; cases ho; cases hc)).trans h2, h3⟩)
    ?assign ?body ?done ?stop
  case assign =>
    rintro l pre ⟨lv, l0, l1, ⟨k, n, s, p, np, cp, q, nq, cq⟩, ok, hx⟩ W K ⟨hg, z3, d1, d2, d3, hB1⟩ hK
    have z := hB1.size
    simp only [V5.v, V5.cs] at hK ⊢
    gi_wp2
    exact hK _ _ ((KeepsOthers.alloc _ _).from _) ((Kept.refl _ _ _).alloc (by omega) _) ⟨hg, by go_size, d1.alloc _, d2.alloc _, d3.alloc _, hB1.alloc (by omega) _⟩ ⟨W.heap.size, by omega, Blk.new W _ _, rfl⟩
  case body =>
    rintro l pre ⟨lv, l0, l1, ⟨k, n, s, p, np, cp, q, nq, cq⟩, ok, hx⟩ a' W hl ⟨r, hr⟩ ⟨hg, z3, d1, d2, d3, hB1⟩ ⟨Bx, hBx, bX, rfl⟩ _
    dsimp only [V5.v, V5.cs] at bX ⊢
    obtain ⟨x, hxe⟩ : ∃ x : Node w0.heap.size w0, (⟨lv, l0, l1, ⟨k, n, s, p, np, cp, q, nq, cq⟩, ok, hx⟩ : Node w0.heap.size w0) = x := ⟨_, rfl⟩
    have hdp := dep_snoc pre x
    have hgs := good_snoc hg x
    rw [← hdp] at hgs
    have hd0 := dep_nonneg pre
    obtain ⟨hg1, hg2, _⟩ := hg
    rw [show depN (dep pre) x = if k = 5 ∨ k = 6 then max (dep pre) (lv + 1) else dep pre by rw [← hxe]; rfl] at hdp
    rw [show x.ok = ok by rw [← hxe]] at hgs
    rw [hxe]
    clear hxe hr
    have hlen : ((pre ++ [x]).length : Int) = pre.length + 1 := by simp
    have hx' := Lib.hid hx
    clear hx
    have c1 := d1.cell
    have f1 := d1.frozen
    have c2 := d2.cell
    have f2 := d2.frozen
    have c3 := d3.cell
    have f3 := d3.frozen
    have e0 := bX.cell 0
    have e1 := bX.cell 1
    have e2 := bX.cell 2
    have e3 := bX.cell 3
    have e4 := bX.cell 4
    have zB := bX.lt
    have z4 : w.heap.size + 1 < W.heap.size := by omega
    have z5 : w.heap.size + 1 + 1 < W.heap.size := by omega
    have z6 : w.heap.size + 1 + 1 + 1 < W.heap.size := by omega
    have n1 : Bx ≠ w.heap.size + 1 := by omega
    have n2 : Bx ≠ w.heap.size + 1 + 1 := by omega
    have n3 : Bx ≠ w.heap.size + 1 + 1 + 1 := by omega
    have g1 : Blk W (w.heap.size + 1) #[.int .i64 (dep pre)] 3 := d1
    have g2 : Blk W (w.heap.size + 1 + 1) #[.int .i64 (pre.length : Int)] 3 := d2
    have g3 : Blk W (w.heap.size + 1 + 1 + 1) #[.bool true] 4 := d3
    clear d1 d2 d3
    generalize dep pre = dp at *
    obtain ⟨dd, hddd⟩ : ∃ dd, dep (pre ++ [x]) = dd := ⟨_, rfl⟩
    have hpost : ∀ (b : Bool) W', w.heap.size + 5 ≤ W'.heap.size → Blk W' (w.heap.size + 1) #[.int .i64 dd] 3 → Blk W' (w.heap.size + 1 + 1) #[.int .i64 ((pre.length : Int) + 1)] 3 → Blk W' (w.heap.size + 1 + 1 + 1) #[.bool b] 4 → Below w.heap.size w W' → MI w w.heap.size b (pre ++ [x]) W' := by
      intro b W' p1 p2 p3 p4 p5
      refine ⟨p1, ?_, ?_, p4, p5⟩
      · rw [hddd]; exact p2
      · rw [hlen]; exact p3
    rw [hddd] at hgs hdp
    have hgs' := Lib.hid hgs
    have hpost' := Lib.hid hpost
    have hsz' := Lib.hid hsz
    have hs5 : RowKit.Hid (w.heap.size + 5 ≤ W.heap.size ∧ w.heap.size + 1 + 1 + 1 < W0.heap.size) := Lib.hid ⟨z3, by omega⟩
    clear hgs hpost hlen hddd hsz
    have hcase : (k = 5 ∨ k = 6) ∧ dp < lv + 1 ∧ dd = lv + 1 ∨ (k = 5 ∨ k = 6) ∧ lv + 1 ≤ dp ∧ dd = dp ∨ ¬ (k = 5 ∨ k = 6) ∧ dd = dp := by
      by_cases hk : k = 5 ∨ k = 6
      · rw [if_pos hk] at hdp
        by_cases hm : dp < lv + 1
        · exact .inl ⟨hk, hm, by omega⟩
        · exact .inr (.inl ⟨hk, by omega, by omega⟩)
      · rw [if_neg hk] at hdp
        exact .inr (.inr ⟨hk, hdp⟩)
    clear hdp
    rcases hcase with ⟨hk, hm, e⟩ | ⟨hk, hm, e⟩ | ⟨hk, e⟩
    all_goals subst dd
    all_goals cases ok
    all_goals gi_wp2_with (first
      | ((try refine ⟨trivial, ?_⟩); gi_at_call 59; refine (CallsIn.inRound l (callsIn_wide.2 (holds_any k _))).mono ?_; rintro e w1 ⟨rfl, rfl⟩)
      | ((try refine ⟨trivial, ?_⟩); gi_at_call 73; refine (CallsIn.inRound l (callsIn_wide.2 (hx'.out _ (hb0'.out.trans (Below.mono (B := w.heap.size) (by repeat' (first | (with_reducible assumption) | (with_reducible refine Below.set ?_ (by omega) _))) hs0))))).mono ?_; rintro e w1 ⟨rfl, hb1⟩; obtain ⟨hc1, hf1⟩ := bcell hb1; have zz1 := hb1.size; simp only [World.size_setCell] at zz1 hc1 hf1; (have y1 : w.heap.size + 1 + 1 + 1 < w1.heap.size := by omega))
      | (refine ⟨trivial, ?_⟩))
    all_goals clear hx'
    all_goals (have hs6 := hs5.out; have hgg := hgs'.out)
    all_goals first
      | (refine ⟨?_, ⟨rfl, ?_⟩, hpost'.out _ _ ?_ ?_ ?_ ?_ ?_⟩)
      | (refine ⟨?_, ?_, ?_, hpost'.out _ _ ?_ ?_ ?_ ?_ ?_⟩)
    all_goals (try (rw [hgg]; first | (rintro ⟨h1, h2, h3⟩; first | omega | cases h3) | exact ⟨by omega, by omega, by simp⟩))
    all_goals (try (simp only [World.size_setCell] at *; omega))
    all_goals first
      | ((repeat' (first | (with_reducible exact KeepsFrom.refl _ _) | (with_reducible refine KeepsFrom.trans ?_ ((KeepsOthers.setCell _ _ _).from _)) | (with_reducible refine KeepsFrom.trans ?_ ((others_of_below (by with_reducible assumption)).from _)))); done)
      | ((repeat' (first | (with_reducible exact Kept.refl _ _ _) | (with_reducible refine Kept.setCell ?_ (by omega) (by omega) _) | (with_reducible refine Kept.trans ?_ (kept_of_below (by with_reducible assumption) (by simp only [World.size_setCell]; omega))))); done)
      | ((repeat' (first | (with_reducible assumption) | (with_reducible refine Blk.one (p := .int .i64 dp) ?_ _) | (with_reducible refine Blk.off ?_ _ (by omega)) | (with_reducible refine Blk.kept ?_ (by with_reducible assumption)))); done)
      | ((repeat' (first | (with_reducible assumption) | (with_reducible refine Blk.one (p := .int .i64 (pre.length : Int)) ?_ _) | (with_reducible refine Blk.off ?_ _ (by omega)) | (with_reducible refine Blk.kept ?_ (by with_reducible assumption)))); done)
      | ((repeat' (first | (with_reducible assumption) | (with_reducible refine Blk.one (p := .bool true) ?_ _) | (with_reducible refine Blk.off ?_ _ (by omega)) | (with_reducible refine Blk.kept ?_ (by with_reducible assumption)))); done)
      | ((repeat' (first | (with_reducible assumption) | (with_reducible refine Below.set ?_ (by omega) _) | (with_reducible refine Below.after ?_ (by with_reducible assumption) (by simp only [World.size_setCell]; omega)))); done)
      | skip
  case done =>
    rintro D ys W hD rfl ⟨hg, z3, d1, d2, d3, hB1⟩ hK
    have c1 := d1.cell
    have c2 := d2.cell
    have c3 := d3.cell
    have f1 := d1.frozen
    have f2 := d2.frozen
    have f3 := d3.frozen
    have z4 : w.heap.size + 1 < W.heap.size := by omega
    have z5 : w.heap.size + 1 + 1 < W.heap.size := by omega
    have z6 : w.heap.size + 1 + 1 + 1 < W.heap.size := by omega
    generalize hdl : dep ys = dl at *
    generalize hnl : (ys.length : Int) = nl at *
    have hdl' := Lib.hid hdl
    have hnl' := Lib.hid hnl
    clear hdl hnl
    gi_wp2
    refine wpIn_wide.2 ?_
    go_region
    all_goals gi_wp2
    rw [Exit.noGoto_ret]
    have hK2 := (KeepsOthers.setCell ((W.setCell ⟨w.heap.size + 1, 0, none⟩ (Value.int .i64 dl)).setCell ⟨w.heap.size + 1 + 1, 0, none⟩ (Value.int .i64 nl)) ⟨w.heap.size + 1 + 1 + 1, 0, none⟩ (.bool true)).same D _ ((KeepsOthers.setCell (W.setCell ⟨w.heap.size + 1, 0, none⟩ (Value.int .i64 dl)) ⟨w.heap.size + 1 + 1, 0, none⟩ (Value.int .i64 nl)).same D _ ((KeepsOthers.setCell W ⟨w.heap.size + 1, 0, none⟩ (Value.int .i64 dl)).same D _ hK rfl) rfl) rfl
    have p1 : Blk (((W.setCell ⟨w.heap.size + 1, 0, none⟩ (Value.int .i64 dl)).setCell ⟨w.heap.size + 1 + 1, 0, none⟩ (Value.int .i64 nl)).setCell ⟨w.heap.size + 1 + 1 + 1, 0, none⟩ (.bool true)) (w.heap.size + 1) #[.int .i64 dl] 3 :=
      ((Blk.one (p := .int .i64 dl) d1 _).off _ (by omega)).off _ (by omega)
    have p2 : Blk (((W.setCell ⟨w.heap.size + 1, 0, none⟩ (Value.int .i64 dl)).setCell ⟨w.heap.size + 1 + 1, 0, none⟩ (Value.int .i64 nl)).setCell ⟨w.heap.size + 1 + 1 + 1, 0, none⟩ (.bool true)) (w.heap.size + 1 + 1) #[.int .i64 nl] 3 :=
      (Blk.one (p := .int .i64 nl) (Blk.off (cs := #[.int .i64 nl]) d2 _ (by omega)) _).off _ (by omega)
    have p3 : Blk (((W.setCell ⟨w.heap.size + 1, 0, none⟩ (Value.int .i64 dl)).setCell ⟨w.heap.size + 1 + 1, 0, none⟩ (Value.int .i64 nl)).setCell ⟨w.heap.size + 1 + 1 + 1, 0, none⟩ (.bool true)) (w.heap.size + 1 + 1 + 1) #[.bool true] 4 :=
      Blk.one (p := .bool true) ((Blk.off (cs := #[.bool true]) d3 _ (by omega)).off _ (by omega)) _
    have hB3 : Below w.heap.size w (((W.setCell ⟨w.heap.size + 1, 0, none⟩ (Value.int .i64 dl)).setCell ⟨w.heap.size + 1 + 1, 0, none⟩ (Value.int .i64 nl)).setCell ⟨w.heap.size + 1 + 1 + 1, 0, none⟩ (.bool true)) :=
      ((hB1.setCell (p := ⟨_, _, _⟩) (by simp only []; omega) _).setCell (p := ⟨_, _, _⟩) (by simp only []; omega) _).setCell (p := ⟨_, _, _⟩) (by simp only []; omega) _
    generalize (((W.setCell ⟨w.heap.size + 1, 0, none⟩ (Value.int .i64 dl)).setCell ⟨w.heap.size + 1 + 1, 0, none⟩ (Value.int .i64 nl)).setCell ⟨w.heap.size + 1 + 1 + 1, 0, none⟩ (.bool true)) = W3 at *
    refine ⟨by simp, .inl ⟨_, _, rfl, run_takeDeferred (w := World.drew _) hK2, ?_⟩⟩
    have hg3 := grownBy_putObj' W3.drew D (.deferred none)
    have q1 := cell_kept (W := W3.drew) (p1.cell 0) hg3 (fun r e => by cases e; exact ⟨_, hK2, rfl⟩)
    have q2 := cell_kept (W := W3.drew) (p2.cell 0) hg3 (fun r e => by cases e; exact ⟨_, hK2, rfl⟩)
    have q3 := cell_kept (W := W3.drew) (p3.cell 0) hg3 (fun r e => by cases e; exact ⟨_, hK2, rfl⟩)
    have hB4 : Below w.heap.size w (W3.drew.putObj D (.deferred none)) := hB3.drew.trans (belowK_b (w := w) (Nat.le_refl _) W3.drew D _ _ (by omega) hK2 rfl rfl)
    generalize W3.drew.putObj D (.deferred none) = W4 at *
    refine ⟨.tuple #[.int .i64 dl, .int .i64 nl, .bool true], ?_, ⟨dl, nl, true, rfl, by simpa using hg, fun _ => ⟨by first | rfl | exact hdl'.out.symm, by first | rfl | exact hnl'.out.symm⟩⟩, hB4⟩
    simp [results, Tryd.results54, go_sem, *]
  case stop =>
    rintro D c ys W hD hpre ⟨⟨rfl, hg⟩, z3, d1, d2, d3, hB1⟩ hK
    have c1 := d1.cell
    have c2 := d2.cell
    have c3 := d3.cell
    have f1 := d1.frozen
    have f2 := d2.frozen
    have f3 := d3.frozen
    have z4 : w.heap.size + 1 < W.heap.size := by omega
    have z5 : w.heap.size + 1 + 1 < W.heap.size := by omega
    have z6 : w.heap.size + 1 + 1 + 1 < W.heap.size := by omega
    generalize dep ys = dl at *
    generalize (ys.length : Int) = nl at *
    gi_wp2
    refine wpIn_wide.2 ?_
    go_region
    all_goals gi_wp2
    rw [Exit.noGoto_ret]
    have hK2 := (KeepsOthers.setCell ((W.setCell ⟨w.heap.size + 1, 0, none⟩ (Value.int .i64 dl)).setCell ⟨w.heap.size + 1 + 1, 0, none⟩ (Value.int .i64 nl)) ⟨w.heap.size + 1 + 1 + 1, 0, none⟩ (.bool false)).same D _ ((KeepsOthers.setCell (W.setCell ⟨w.heap.size + 1, 0, none⟩ (Value.int .i64 dl)) ⟨w.heap.size + 1 + 1, 0, none⟩ (Value.int .i64 nl)).same D _ ((KeepsOthers.setCell W ⟨w.heap.size + 1, 0, none⟩ (Value.int .i64 dl)).same D _ hK rfl) rfl) rfl
    have p1 : Blk (((W.setCell ⟨w.heap.size + 1, 0, none⟩ (Value.int .i64 dl)).setCell ⟨w.heap.size + 1 + 1, 0, none⟩ (Value.int .i64 nl)).setCell ⟨w.heap.size + 1 + 1 + 1, 0, none⟩ (.bool false)) (w.heap.size + 1) #[.int .i64 dl] 3 :=
      ((Blk.one (p := .int .i64 dl) d1 _).off _ (by omega)).off _ (by omega)
    have p2 : Blk (((W.setCell ⟨w.heap.size + 1, 0, none⟩ (Value.int .i64 dl)).setCell ⟨w.heap.size + 1 + 1, 0, none⟩ (Value.int .i64 nl)).setCell ⟨w.heap.size + 1 + 1 + 1, 0, none⟩ (.bool false)) (w.heap.size + 1 + 1) #[.int .i64 nl] 3 :=
      (Blk.one (p := .int .i64 nl) (Blk.off (cs := #[.int .i64 nl]) d2 _ (by omega)) _).off _ (by omega)
    have p3 : Blk (((W.setCell ⟨w.heap.size + 1, 0, none⟩ (Value.int .i64 dl)).setCell ⟨w.heap.size + 1 + 1, 0, none⟩ (Value.int .i64 nl)).setCell ⟨w.heap.size + 1 + 1 + 1, 0, none⟩ (.bool false)) (w.heap.size + 1 + 1 + 1) #[.bool false] 4 :=
      Blk.one (p := .bool false) ((Blk.off (cs := #[.bool false]) d3 _ (by omega)).off _ (by omega)) _
    have hB3 : Below w.heap.size w (((W.setCell ⟨w.heap.size + 1, 0, none⟩ (Value.int .i64 dl)).setCell ⟨w.heap.size + 1 + 1, 0, none⟩ (Value.int .i64 nl)).setCell ⟨w.heap.size + 1 + 1 + 1, 0, none⟩ (.bool false)) :=
      ((hB1.setCell (p := ⟨_, _, _⟩) (by simp only []; omega) _).setCell (p := ⟨_, _, _⟩) (by simp only []; omega) _).setCell (p := ⟨_, _, _⟩) (by simp only []; omega) _
    generalize (((W.setCell ⟨w.heap.size + 1, 0, none⟩ (Value.int .i64 dl)).setCell ⟨w.heap.size + 1 + 1, 0, none⟩ (Value.int .i64 nl)).setCell ⟨w.heap.size + 1 + 1 + 1, 0, none⟩ (.bool false)) = W3 at *
    refine ⟨by simp, .inl ⟨_, _, rfl, run_takeDeferred (w := World.drew _) hK2, ?_⟩⟩
    have hg3 := grownBy_putObj' W3.drew D (.deferred none)
    have q1 := cell_kept (W := W3.drew) (p1.cell 0) hg3 (fun r e => by cases e; exact ⟨_, hK2, rfl⟩)
    have q2 := cell_kept (W := W3.drew) (p2.cell 0) hg3 (fun r e => by cases e; exact ⟨_, hK2, rfl⟩)
    have q3 := cell_kept (W := W3.drew) (p3.cell 0) hg3 (fun r e => by cases e; exact ⟨_, hK2, rfl⟩)
    have hB4 : Below w.heap.size w (W3.drew.putObj D (.deferred none)) := hB3.drew.trans (belowK_b (w := w) (Nat.le_refl _) W3.drew D _ _ (by omega) hK2 rfl rfl)
    generalize W3.drew.putObj D (.deferred none) = W4 at *
    refine ⟨.tuple #[.int .i64 dl, .int .i64 nl, .bool false], ?_, ⟨dl, nl, false, rfl, ⟨fun h => (by cases h), fun h => (hg (h.pre hpre)).elim⟩, fun h => (by cases h)⟩, hB4⟩
    simp [results, Tryd.results54, go_sem, *]
end Go.Proofs.YtmleipmilmeclaaDoor

/- Walks: values that may be, values that are one. -/
namespace Go.Proofs.YtmleipmilmeclaaDoor
open Go.RowKit
attribute [local go_sem ↓] Go.wp_at_zero Go.wp_at_succ

set_option maxHeartbeats 4000000 in
theorem right_any (v : V5) (w0 w : World) (hb0 : Below w0.heap.size w0 w) (L : List (Node w0.heap.size w0)) (h : Nat) (hh : h < 4611686018427387904) (hp : Pre w0.heap.size w0 w h 0 v L) (b : Bool) (hg : b = true ↔ Good L) :
    Calls Tryd.prog 31 #[v.v] w fun e w' => e = .returned (.bool b) ∧ Below w.heap.size w w' := by
  have hc := measure_any v w0 (w.alloc (.cells v.cs 39)) (hb0.alloc hb0.size _) L h hh (hp.below ((Below.refl _ w).alloc hb0.size _))
  obtain ⟨vk, vn, vs, vp, vnp, vcp, vq, vnq, vcq⟩ := v
  have hg' := Lib.hid hg
  clear hp hg hb0
  simp only [V5.v, V5.cs] at hc ⊢
  go_enter Tryd.func31, Tryd.ntmps31
  go_wp2_with (go_at_call 54; refine hc.mono ?_; clear hc; rintro e w1 ⟨⟨d, m, b', rfl, hb', _⟩, hb1⟩)
  go_ret
  refine ⟨?_, Below.after ((Below.refl _ _).alloc (Nat.le_refl _) _) hb1 (by go_size)⟩
  rw [show b' = b from Bool.eq_iff_iff.2 (hb'.trans hg'.out.symm)]
  rfl

set_option maxHeartbeats 4000000 in
theorem eq_nil (p : Option Addr) (c : Nat) (q : Option Addr) (d : Nat) (w : World) :
    Calls Tryd.prog 55 #[.slice p 0 c, .slice q 0 d] w fun e w' => e = .returned (.bool true) ∧ Below w.heap.size w w' := by
  go_enter Tryd.func55, Tryd.ntmps55
  go_wp2_with fail
  go_rounds 1
  all_goals go_wp2_with fail
  go_ret
  exact ⟨rfl, by go_grown⟩

set_option maxHeartbeats 4000000 in
theorem eqf_nil (p : Option Addr) (c : Nat) (q : Option Addr) (d : Nat) (f : Value) (w : World) :
    Calls Tryd.prog 56 #[.slice p 0 c, .slice q 0 d, f] w fun e w' => e = .returned (.bool true) ∧ Below w.heap.size w w' := by
  go_enter Tryd.func56, Tryd.ntmps56
  go_wp2_with fail
  go_rounds 1
  all_goals go_wp2_with fail
  go_ret
  exact ⟨rfl, by go_grown⟩

theorem right_leaf (v : V5) (hk : v.k ≠ 5 ∧ v.k ≠ 6) (hnp : v.np = 0) (b : Bool) (is : ∀ W, Calls Tryd.prog 73 #[v.v] W fun e w' => e = .returned (.bool b) ∧ Below W.heap.size W w') (w : World) :
    Calls Tryd.prog 31 #[v.v] w fun e w' => e = .returned (.bool b) ∧ Below w.heap.size w w' := by
  refine right_any v w w (Below.refl _ _) [⟨0, by omega, by omega, v, b, fun W _ => is W⟩] 1 (by omega) ⟨_, [], rfl, rfl, rfl, ⟨hnp, by simp⟩, .inl rfl, fun i hi => by simp at hi⟩ b ?_
  have hd : dep [(⟨0, by omega, by omega, v, b, fun W _ => is W⟩ : Node w.heap.size w)] = 0 := by
    simp [dep, depN, hk]
  simp [Good, hd]

set_option maxHeartbeats 4000000 in
theorem equal_leaf (x y : V5) (h1 : x.np = 0) (h2 : y.np = 0) (h3 : x.nq = 0) (h4 : y.nq = 0) (w : World) :
    Calls Tryd.prog 32 #[x.v, y.v] w fun e w' => e = .returned (.bool (decide (x.k = y.k ∧ x.n = y.n ∧ x.s = y.s))) ∧ Below w.heap.size w w' := by
  obtain ⟨k, n, s, p, np, cp, q, nq, cq⟩ := x
  obtain ⟨k', n', s', p', np', cp', q', nq', cq'⟩ := y
  simp only at h1 h2 h3 h4
  subst h1 h2 h3 h4
  simp only [V5.v, V5.cs]
  go_enter Tryd.func32, Tryd.ntmps32
  go_wp2_with (first
    | (go_at_call 55; refine (eq_nil _ _ _ _ _).mono ?_; rintro e w1 ⟨rfl, hb1⟩; obtain ⟨hc1, hf1⟩ := bcell hb1; have z1 := hb1.size; simp only [World.size_alloc] at z1 hc1 hf1; (have y1 : w.heap.size < w1.heap.size := by omega); (have y2 : w.heap.size + 1 < w1.heap.size := by omega))
    | (go_at_call 56; refine (eqf_nil _ _ _ _ _ _).mono ?_; rintro e w2 ⟨rfl, hb2⟩; obtain ⟨hc2, hf2⟩ := bcell hb2; have z2 := hb2.size))
  all_goals go_ret
  all_goals refine ⟨?_, ?_⟩
  all_goals first
    | ((repeat' (first | (with_reducible exact Below.refl _ _) | (with_reducible refine Below.alloc ?_ (by go_size) _) | (with_reducible refine Below.after ?_ (by with_reducible assumption) (by go_size)))); done)
    | (simp only [str_eq] at *; simp [*]; done)
    | (simp [*]; done)

set_option maxHeartbeats 4000000 in
theorem same_any (x y : V5) (b c d : Bool) (hx : ∀ w, Calls Tryd.prog 31 #[x.v] w fun e w' => e = .returned (.bool b) ∧ Below w.heap.size w w') (hy : ∀ w, Calls Tryd.prog 31 #[y.v] w fun e w' => e = .returned (.bool c) ∧ Below w.heap.size w w')
    (he : ∀ w, Calls Tryd.prog 32 #[x.v, y.v] w fun e w' => e = .returned (.bool d) ∧ Below w.heap.size w w') (w : World) :
    Calls Tryd.prog 10 #[x.v, y.v] w fun e w' => e = .returned (.bool (b && c && d)) ∧ Below w.heap.size w w' := by
  have hx' := Lib.hid hx
  have hy' := Lib.hid hy
  have he' := Lib.hid he
  clear hx hy he
  obtain ⟨k, n, s, p, np, cp, q, nq, cq⟩ := x
  obtain ⟨k', n', s', p', np', cp', q', nq', cq'⟩ := y
  simp only [V5.v, V5.cs]
  go_enter Tryd.func10, Tryd.ntmps10
  cases b <;> cases c <;> cases d
  all_goals go_wp2_with (first
    | (go_at_call 31; refine (hx'.out _).mono ?_; clear hx'; rintro e w1 ⟨rfl, hb1⟩; obtain ⟨hc1, hf1⟩ := bcell hb1; have z1 := hb1.size; simp only [World.size_alloc] at z1 hc1 hf1; (have y1 : w.heap.size < w1.heap.size := by omega); (have y2 : w.heap.size + 1 < w1.heap.size := by omega))
    | (go_at_call 31; refine (hy'.out _).mono ?_; clear hy'; rintro e w2 ⟨rfl, hb2⟩; obtain ⟨hc2, hf2⟩ := bcell hb2; have z2 := hb2.size; (have y3 : w.heap.size < w2.heap.size := by omega); (have y4 : w.heap.size + 1 < w2.heap.size := by omega))
    | (go_at_call 32; refine (he'.out _).mono ?_; clear he'; rintro e w3 ⟨rfl, hb3⟩))
  all_goals go_ret
  all_goals refine ⟨rfl, ?_⟩
  all_goals repeat' (first | (with_reducible exact Below.refl _ _) | (with_reducible refine Below.alloc ?_ (by go_size) _) | (with_reducible refine Below.after ?_ (by with_reducible assumption) (by go_size)))

theorem right_int (n : Int) (w : World) : Calls Tryd.prog 31 #[vInt n] w fun e w' => e = .returned (.bool true) ∧ Below w.heap.size w w' :=
  right_leaf ⟨3, n, ⟨#[]⟩, none, 0, 0, none, 0, 0⟩ (by simp) rfl true (is_k3 _ rfl true (fun w => by simpa using number_any ⟨3, n, ⟨#[]⟩, none, 0, 0, none, 0, 0⟩ w)) w

theorem right_null (w : World) : Calls Tryd.prog 31 #[vNull] w fun e w' => e = .returned (.bool true) ∧ Below w.heap.size w w' :=
  right_leaf ⟨1, 0, ⟨#[]⟩, none, 0, 0, none, 0, 0⟩ (by simp) rfl true (is_k1 _ rfl true (fun w => by simpa using null_any ⟨1, 0, ⟨#[]⟩, none, 0, 0, none, 0, 0⟩ w)) w

theorem same_int (a b : Int) (w : World) : Calls Tryd.prog 10 #[vInt a, vInt b] w fun e w' => e = .returned (.bool (decide (a = b))) ∧ Below w.heap.size w w' := by
  have h := same_any ⟨3, a, ⟨#[]⟩, none, 0, 0, none, 0, 0⟩ ⟨3, b, ⟨#[]⟩, none, 0, 0, none, 0, 0⟩ true true (decide (a = b)) (right_int a) (right_int b) (fun w => by simpa using equal_leaf ⟨3, a, ⟨#[]⟩, none, 0, 0, none, 0, 0⟩ ⟨3, b, ⟨#[]⟩, none, 0, 0, none, 0, 0⟩ rfl rfl rfl rfl w) w
  simpa using h

theorem same_null (w : World) : Calls Tryd.prog 10 #[vNull, vNull] w fun e w' => e = .returned (.bool true) ∧ Below w.heap.size w w' := by
  have h := same_any ⟨1, 0, ⟨#[]⟩, none, 0, 0, none, 0, 0⟩ ⟨1, 0, ⟨#[]⟩, none, 0, 0, none, 0, 0⟩ true true true right_null right_null (fun w => by simpa using equal_leaf ⟨1, 0, ⟨#[]⟩, none, 0, 0, none, 0, 0⟩ ⟨1, 0, ⟨#[]⟩, none, 0, 0, none, 0, 0⟩ rfl rfl rfl rfl w) w
  simpa using h

end Go.Proofs.YtmleipmilmeclaaDoor
