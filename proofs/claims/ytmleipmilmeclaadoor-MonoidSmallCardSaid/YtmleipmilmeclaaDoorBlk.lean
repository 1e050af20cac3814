/- A block that is known whole. -/
import Derived.Test.YtmleipmilmeclaaDoorMath
import Derived.WalkSpells
import Derived.WalkLawsBesides
import Derived.Handy
import Derived.Lib.Hide
namespace Go.Proofs.YtmleipmilmeclaaDoor
open Go.RowKit

/-- block b holds just these cells, none of them frozen -/
def Blk (w : World) (b : Nat) (cs : Array Value) (T : TypeId) : Prop := w.heap[b]? = some (.cells cs T (0, 0))

theorem Blk.cell {w : World} {b : Nat} {cs : Array Value} {T : TypeId} (h : Blk w b cs T) (k : Nat) : w.cell? ⟨b, k, none⟩ = cs[k]? := by
  unfold Blk at h; simp [World.cell?, h]
theorem Blk.frozen {w : World} {b : Nat} {cs : Array Value} {T : TypeId} (h : Blk w b cs T) (k : Nat) : w.frozen? ⟨b, k, none⟩ = false := by
  unfold Blk at h; simp [World.frozen?, h]
theorem Blk.lt {w : World} {b : Nat} {cs : Array Value} {T : TypeId} (h : Blk w b cs T) : b < w.heap.size := by
  unfold Blk at h
  rcases Nat.lt_or_ge b w.heap.size with h1 | h1
  · exact h1
  · rw [Array.getElem?_eq_none h1] at h; cases h
theorem Blk.new (w : World) (cs : Array Value) (T : TypeId) : Blk (w.alloc (.cells cs T)) w.heap.size cs T := by
  show (w.heap.push _)[w.heap.size]? = _
  simp
theorem Blk.alloc {w : World} {b : Nat} {cs : Array Value} {T : TypeId} (h : Blk w b cs T) (o : Obj) : Blk (w.alloc o) b cs T := by
  unfold Blk at *; rw [Below.heap_alloc _ _ _ (Blk.lt h)]; exact h
theorem Blk.drew {w : World} {b : Nat} {cs : Array Value} {T : TypeId} (h : Blk w b cs T) : Blk w.drew b cs T := h
theorem Blk.below {w w' : World} {B b : Nat} {cs : Array Value} {T : TypeId} (h : Blk w b cs T) (hb : Below B w w') (hl : b < B) : Blk w' b cs T := by
  unfold Blk at *; rw [hb.block b hl]; exact h
theorem Blk.kept {w w' : World} {b : Nat} {cs : Array Value} {T : TypeId} (h : Blk w b cs T) (hb : Below w.heap.size w w') : Blk w' b cs T := h.below hb h.lt
theorem Blk.set {w : World} {b : Nat} {cs : Array Value} {T : TypeId} (h : Blk w b cs T) (k : Nat) (v : Value) : Blk (w.setCell ⟨b, k, none⟩ v) b (cs.setIfInBounds k v) T := by
  unfold Blk at *; simp [World.setCell, Array.getElem?_modify, h]
theorem Blk.far {w : World} {b : Nat} {cs : Array Value} {T : TypeId} (h : Blk w b cs T) {a : Addr} (v : Value) (hne : b ≠ a.block) : Blk (w.setCell a v) b cs T := by
  unfold Blk at *; rw [Below.heap_setCell _ _ _ _ hne]; exact h

theorem bcell {W w1 : World} (hb : Below W.heap.size W w1) : (∀ b o, b < W.heap.size → w1.cell? ⟨b, o, none⟩ = W.cell? ⟨b, o, none⟩) ∧ (∀ b o, b < W.heap.size → w1.frozen? ⟨b, o, none⟩ = W.frozen? ⟨b, o, none⟩) :=
  ⟨fun b o h => hb.cell (p := ⟨b, o, none⟩) h, fun b o h => hb.frozen (p := ⟨b, o, none⟩) h⟩
theorem Below.after {B : Nat} {a W w1 : World} (h : Below B a W) (hb : Below W.heap.size W w1) (hs : B ≤ W.heap.size) : Below B a w1 := h.trans (hb.mono hs)
theorem ret_bool {a b : Bool} (h : a = b) : Ending.returned (.bool a) = .returned (.bool b) := by rw [h]
theorem ret_int {k : IntKind} {a b : Int} (h : a = b) : Ending.returned (.int k a) = .returned (.int k b) := by rw [h]

/-- a block that is known whole, and the rule by which its cells are read: what a region that draws its order holds -/
abbrev Hold (b : Nat) (cs : Array Value) (T : TypeId) (w : World) : Prop := Blk w b cs T ∧ ∀ k, w.cell? ⟨b, k, none⟩ = cs[k]?
theorem Hold.mk' {w : World} {b : Nat} {cs : Array Value} {T : TypeId} (h : Blk w b cs T) : Hold b cs T w := ⟨h, h.cell⟩
theorem Hold.alloc {w : World} {b : Nat} {cs : Array Value} {T : TypeId} (h : Hold b cs T w) (o : Obj) : Hold b cs T (w.alloc o) := .mk' (h.1.alloc o)
theorem Hold.drew {w : World} {b : Nat} {cs : Array Value} {T : TypeId} (h : Hold b cs T w) : Hold b cs T w.drew := .mk' h.1
theorem Hold.kept {w w' : World} {b : Nat} {cs : Array Value} {T : TypeId} (h : Hold b cs T w) (hb : Below w.heap.size w w') : Hold b cs T w' := .mk' (h.1.kept hb)
theorem Hold.far {w : World} {b : Nat} {cs : Array Value} {T : TypeId} (h : Hold b cs T w) {a : Addr} (v : Value) (hne : b ≠ a.block) : Hold b cs T (w.setCell a v) := .mk' (h.1.far v hne)
theorem Hold.other {w : World} {b : Nat} {cs : Array Value} {T : TypeId} {o : Obj} (h : Hold b cs T (w.alloc o)) (hl : b < w.heap.size) (o' : Obj) : Hold b cs T (w.alloc o') := by
  have h1 := h.1
  refine .mk' ?_
  unfold Blk at *
  rw [Below.heap_alloc _ _ _ hl] at *; exact h1
theorem Blk.two {w : World} {b : Nat} {p q : Value} {T : TypeId} (h : Blk w b #[p, q] T) (x y : Value) : Blk ((w.setCell ⟨b, 0, none⟩ x).setCell ⟨b, 1, none⟩ y) b #[x, y] T :=
  (h.set 0 x).set 1 y
theorem Blk.new' {w : World} {cs : Array Value} {T : TypeId} {n : Nat} (h : n = w.heap.size) : Blk (w.alloc (.cells cs T)) n cs T := h ▸ Blk.new w cs T
abbrev Hold2 (b : Nat) (cs : Array Value) (T : TypeId) (b' : Nat) (cs' : Array Value) (T' : TypeId) (w : World) : Prop := Hold b cs T w ∧ Hold b' cs' T' w
section
variable {w w' : World} {b b' : Nat} {cs cs' : Array Value} {T T' : TypeId}
theorem Hold2.mk' (h : Blk w b cs T) (h' : Blk w b' cs' T') : Hold2 b cs T b' cs' T' w := ⟨.mk' h, .mk' h'⟩
theorem Hold2.alloc (h : Hold2 b cs T b' cs' T' w) (o : Obj) : Hold2 b cs T b' cs' T' (w.alloc o) := ⟨h.1.alloc o, h.2.alloc o⟩
theorem Hold2.drew (h : Hold2 b cs T b' cs' T' w) : Hold2 b cs T b' cs' T' w.drew := ⟨h.1.drew, h.2.drew⟩
theorem Hold2.kept (h : Hold2 b cs T b' cs' T' w) (hb : Below w.heap.size w w') : Hold2 b cs T b' cs' T' w' := ⟨h.1.kept hb, h.2.kept hb⟩
theorem Hold2.far (h : Hold2 b cs T b' cs' T' w) {a : Addr} (v : Value) (hne : b ≠ a.block) (hne' : b' ≠ a.block) : Hold2 b cs T b' cs' T' (w.setCell a v) := ⟨h.1.far v hne, h.2.far v hne'⟩
theorem Hold2.far2 (h : Hold2 b cs T b' cs' T' w) {a : Addr} (v : Value) {a' : Addr} (v' : Value) (hne : b ≠ a.block) (hne' : b' ≠ a.block) (hm : b ≠ a'.block) (hm' : b' ≠ a'.block) :
    Hold2 b cs T b' cs' T' ((w.setCell a v).setCell a' v') := (h.far v hne hne').far v' hm hm'
end
theorem Below.set {B : Nat} {a w : World} (h : Below B a w) {b o : Nat} (hp : B ≤ b) (u : Value) : Below B a (w.setCell ⟨b, o, none⟩ u) := h.setCell hp u
theorem Blk.off {w : World} {b : Nat} {cs : Array Value} {T : TypeId} (h : Blk w b cs T) {b' o : Nat} (v : Value) (hne : b ≠ b') : Blk (w.setCell ⟨b', o, none⟩ v) b cs T := h.far v hne
theorem Hold.off {w : World} {b : Nat} {cs : Array Value} {T : TypeId} (h : Hold b cs T w) {b' o : Nat} (v : Value) (hne : b ≠ b') : Hold b cs T (w.setCell ⟨b', o, none⟩ v) := h.far v hne
theorem Hold2.off {w : World} {b : Nat} {cs : Array Value} {T : TypeId} {c : Nat} {ds : Array Value} {U : TypeId} (h : Hold2 b cs T c ds U w) {b' o : Nat} (v : Value) (hne : b ≠ b') (hm : c ≠ b') : Hold2 b cs T c ds U (w.setCell ⟨b', o, none⟩ v) := h.far v hne hm
abbrev Hold3 (b : Nat) (cs : Array Value) (T : TypeId) (b' : Nat) (cs' : Array Value) (T' : TypeId) (c : Nat) (ds : Array Value) (U : TypeId) (w : World) : Prop := Hold b cs T w ∧ Hold b' cs' T' w ∧ Hold c ds U w
section
variable {w w' : World} {b b' c : Nat} {cs cs' ds : Array Value} {T T' U : TypeId}
theorem Hold3.mk' (h : Blk w b cs T) (h' : Blk w b' cs' T') (k : Blk w c ds U) : Hold3 b cs T b' cs' T' c ds U w := ⟨.mk' h, .mk' h', .mk' k⟩
theorem Hold3.alloc (h : Hold3 b cs T b' cs' T' c ds U w) (o : Obj) : Hold3 b cs T b' cs' T' c ds U (w.alloc o) := ⟨h.1.alloc o, h.2.1.alloc o, h.2.2.alloc o⟩
theorem Hold3.drew (h : Hold3 b cs T b' cs' T' c ds U w) : Hold3 b cs T b' cs' T' c ds U w.drew := ⟨h.1.drew, h.2.1.drew, h.2.2.drew⟩
theorem Hold3.kept (h : Hold3 b cs T b' cs' T' c ds U w) (hb : Below w.heap.size w w') : Hold3 b cs T b' cs' T' c ds U w' := ⟨h.1.kept hb, h.2.1.kept hb, h.2.2.kept hb⟩
theorem Hold3.off (h : Hold3 b cs T b' cs' T' c ds U w) {g o : Nat} (v : Value) (h1 : b ≠ g) (h2 : b' ≠ g) (h3 : c ≠ g) : Hold3 b cs T b' cs' T' c ds U (w.setCell ⟨g, o, none⟩ v) := ⟨h.1.off v h1, h.2.1.off v h2, h.2.2.off v h3⟩
end
theorem Hold2.other {w : World} {b : Nat} {cs : Array Value} {T : TypeId} {c : Nat} {ds : Array Value} {U : TypeId} {o : Obj} (h : Hold2 b cs T c ds U (w.alloc o)) (hl : b < w.heap.size) (hm : c < w.heap.size) (o' : Obj) : Hold2 b cs T c ds U (w.alloc o') := ⟨h.1.other hl o', h.2.other hm o'⟩
end Go.Proofs.YtmleipmilmeclaaDoor
