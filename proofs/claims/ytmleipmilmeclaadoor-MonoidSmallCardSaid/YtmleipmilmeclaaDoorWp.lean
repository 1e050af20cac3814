/- Rows that the law makes; what they add up to. -/
import Derived.Test.YtmleipmilmeclaaDoorWo
import Derived.Deep.AppendLies
namespace Go.Proofs.YtmleipmilmeclaaDoor
open Go.RowKit

/-- The cells of rows. -/
def items : List Int → List Value
  | [] => []
  | x :: L => .slice none 0 0 :: .slice none 0 0 :: .bool true :: .int .i64 x :: items L
theorem items_len (L : List Int) : (items L).length = L.length * 4 := by
  induction L with
  | nil => rfl
  | cons x L ih => simp only [items, List.length_cons, ih]; omega
theorem items_snoc (L : List Int) (x : Int) : items (L ++ [x]) = items L ++ [.slice none 0 0, .slice none 0 0, .bool true, .int .i64 x] := by
  induction L with
  | nil => rfl
  | cons y L ih => simp only [List.cons_append, items, ih]
theorem items_at (L : List Int) : ∀ (k : Nat) (h : k < L.length), (items L)[k * 4]? = some (.slice none 0 0) ∧ (items L)[k * 4 + 1]? = some (.slice none 0 0) ∧ (items L)[k * 4 + 2]? = some (.bool true) ∧ (items L)[k * 4 + 3]? = some (.int .i64 L[k]) := by
  induction L with
  | nil => intro k h; simp at h
  | cons y L ih =>
    intro k h
    match k with
    | 0 => simp [items]
    | k + 1 =>
      have := ih k (by simpa using h)
      rw [show (k + 1) * 4 = k * 4 + 4 by omega]
      simpa [items] using this

theorem add_off (b j : Nat) : (⟨b, 0, none⟩ : Addr).add j = ⟨b, j, none⟩ := by
  unfold Addr.add; split <;> simp_all

theorem owned_items {w : World} {base g cap n : Nat} {L : List Int} (h : w.ownsRow base 27 4 (.slice (some ⟨g, 0, none⟩) n cap) n (items L)) (_hn : L.length = n) (hg : g < w.heap.size) : Items w g L := by
  have hc := World.ownsRow.cells (g := g) h rfl
  refine ⟨hg, fun k hk => ?_⟩
  obtain ⟨i0, i1, i2, i3⟩ := items_at L k hk
  have e := fun j u hu => (add_off g j) ▸ hc j u hu
  exact ⟨e _ _ i0, e _ _ i1, e _ _ i2, e _ _ i3⟩

/-- All the rows that were made. -/
theorem all_rows (L : List Int) (hl : L.length ≤ 60) (hL : ∀ x ∈ L, I64 x) (base : Nat) (v : Value) (w : World) (h : w.ownsRow base 27 4 v L.length (items L)) :
    Calls Tryd.prog 7 #[v] w fun e w' => e = .returned (.tuple #[rv (redOf L), .bool true]) ∧ Below w.heap.size w w' := by
  rcases Nat.eq_zero_or_pos L.length with h0 | h0
  · obtain rfl : L = [] := List.eq_nil_of_length_eq_zero h0
    rcases h.2 with ⟨rfl, _⟩ | ⟨g, cap, cur, rfl, hb, hg, hnc, _, hcs, _⟩
    · exact all_nil w
    · exact all_any [] 0 g cap rfl hL w (by omega) (by omega) ⟨(Array.getElem?_eq_some_iff.1 hg).1, fun k hk => by simp at hk⟩
  · obtain ⟨g, cap, rfl, _, hlt⟩ := h.form h0
    have hcap : L.length ≤ cap := by
      rcases h.2 with ⟨e, _⟩ | ⟨g', cap', cur, e, _, _, hnc, _⟩
      · cases e
      · cases e; exact hnc
    exact all_any L L.length g cap rfl hL w hl hcap (owned_items h rfl hlt)

/-- PLAIN: numbers and their opposites. -/
def I63 (n : Int) : Prop := -9223372036854775807 ≤ n ∧ n ≤ 9223372036854775807
theorem I63.i64 {n : Int} (h : I63 n) : I64 n := by unfold I63 I64 at *; omega
theorem I63.neg {n : Int} (h : I63 n) : I63 (-n) := by unfold I63 at *; omega

structure Turned (a b : R) : Prop where
  c : b.c = a.c
  i : b.i = a.i
  s : b.s = -a.s
  l : b.l = -a.m
  m : b.m = -a.l
  bl : I63 a.l
  bm : I63 a.m
  z : a.i = 0 → a.s = 0 ∧ a.l = 0 ∧ a.m = 0
  i0 : 0 ≤ a.i

theorem Turned.step {a b : R} (h : Turned a b) {n : Int} (hn : I63 n) : Turned (a.both (R.one n)) (b.both (R.one (-n))) := by
  obtain ⟨xc, xi, xs, xl, xm⟩ := a
  obtain ⟨yc, yi, ys, yl, ym⟩ := b
  obtain ⟨h1, h2, h3, h4, h5, h6, h7, h8, h9⟩ := h
  simp only at h1 h2 h3 h4 h5 h6 h7 h8 h9
  subst yc yi ys yl ym
  unfold I63 at *
  simp only [R.both, R.one]
  by_cases hi : xi > 0
  · simp only [hi, if_true, show ¬((1 : Int) = 0) by omega, if_false]
    constructor <;> dsimp only <;> (try unfold I63) <;> omega
  · simp only [hi, if_false, show ¬((1 : Int) = 0) by omega]
    constructor <;> dsimp only <;> (try unfold I63) <;> omega

theorem turned (L : List Int) (hL : ∀ n ∈ L, I63 n) : Turned (redOf L) (redOf (L.map fun n => -n)) := by
  have : ∀ (L : List Int) (a b : R), Turned a b → (∀ n ∈ L, I63 n) → Turned (L.foldl (fun r n => r.both (R.one n)) a) ((L.map fun n => -n).foldl (fun r n => r.both (R.one n)) b) := by
    intro L
    induction L with
    | nil => intro a b h _; exact h
    | cons x L ih => intro a b h hL; exact ih _ _ (h.step (hL x (by simp))) (fun n hn => hL n (by simp [hn]))
  refine this L _ _ ?_ hL
  constructor <;> simp [R.zero, I63]

theorem Turned.sum {a b : R} (h : Turned a b) : (a.both b).s = 0 ∧ (a.both b).l = -(a.both b).m ∧ I63 (a.both b).m := by
  obtain ⟨xc, xi, xs, xl, xm⟩ := a
  obtain ⟨yc, yi, ys, yl, ym⟩ := b
  obtain ⟨h1, h2, h3, h4, h5, h6, h7, h8, h9⟩ := h
  simp only at h1 h2 h3 h4 h5 h6 h7 h8 h9
  subst yc yi ys yl ym
  unfold I63 at *
  by_cases hi : xi = 0
  · obtain ⟨rfl, rfl, rfl⟩ := h8 hi
    simp [R.both, hi]
  · simp only [R.both, hi, if_false, show xi > 0 by omega, if_true]
    omega

end Go.Proofs.YtmleipmilmeclaaDoor
