/- Plain facts on sums of 128 bits: a number is told by its two halves. -/
import Derived.Test.YtmleipmilmeclaaDoorProg
import Derived.WalkKit
import Derived.WalkSpells
import Derived.WalkLawsBesides
import Derived.Handy
import Derived.Lib.Hide
namespace Go.Proofs.YtmleipmilmeclaaDoor
open Go.RowKit

/-- the two halves of a number -/
def hi (s : Int) : Int := s / 18446744073709551616
def lo (s : Int) : Int := s % 18446744073709551616
/-- a number of the kind int64; a sum that two halves hold, with room -/
def I64 (n : Int) : Prop := -9223372036854775808 ≤ n ∧ n ≤ 9223372036854775807
def S120 (n : Int) : Prop := -1329227995784915872903807060280344576 ≤ n ∧ n ≤ 1329227995784915872903807060280344576
abbrev hl (s : Int) : Value := .agg #[.int .i64 (hi s), .int .u64 (lo s)]

instance (n : Int) : Decidable (I64 n) := by unfold I64; infer_instance
theorem wrap_u64 (n : Int) : IntKind.u64.wrap n = n % 18446744073709551616 := by
  simp [IntKind.wrap, IntKind.bits, IntKind.signed]

theorem of_hi {n : Int} (h : I64 n) : n / 9223372036854775808 = hi n := by unfold hi; unfold I64 at h; omega
theorem of_lo (n : Int) : IntKind.u64.wrap n = lo n := wrap_u64 n

theorem lo_bd (s : Int) : 0 ≤ lo s ∧ lo s ≤ 18446744073709551615 := by unfold lo; omega
theorem hi_bd {s : Int} (h : S120 s) : -72057594037927936 ≤ hi s ∧ hi s ≤ 72057594037927936 := by unfold hi; unfold S120 at h; omega
theorem hl_eq (s : Int) : s = hi s * 18446744073709551616 + lo s := by unfold hi lo; omega

theorem plus_lo (s t : Int) : IntKind.u64.wrap (lo s + lo t) = lo (s + t) := by rw [wrap_u64]; unfold lo; omega
theorem plus_hi_carry {s t : Int} (h : lo (s + t) < lo s) : hi s + hi t + 1 = hi (s + t) := by unfold hi; unfold lo at h; omega
theorem plus_hi_none {s t : Int} (h : lo s ≤ lo (s + t)) : hi s + hi t = hi (s + t) := by unfold hi; unfold lo at h; omega
theorem above_iff (s t : Int) : (hi s > hi t ∨ (hi s = hi t ∧ lo s > lo t)) ↔ s > t := by unfold hi lo; omega
theorem eq_iff (s t : Int) : (hi s = hi t ∧ lo s = lo t) ↔ s = t := by unfold hi lo; omega
theorem lo_back {s : Int} (h : I64 s) : IntKind.i64.wrap (lo s) = s := by
  rw [IntKind.wrap_i64]; unfold lo; unfold I64 at h; omega
theorem wrap_lo_I64 (s : Int) : I64 (IntKind.i64.wrap (lo s)) := by
  rw [IntKind.wrap_i64]; unfold lo I64; omega
theorem fits_iff (s : Int) : IntKind.i64.wrap (lo s) = s ↔ I64 s := by
  rw [IntKind.wrap_i64]; unfold lo I64; omega

end Go.Proofs.YtmleipmilmeclaaDoor
namespace Go.Proofs.YtmleipmilmeclaaDoor
open Go.RowKit

/-- a reduction: how many rows, how many with a number, the sum, the least, the most -/
structure R where
  c : Int
  i : Int
  s : Int
  l : Int
  m : Int

abbrev rv (r : R) : Value := .agg #[.int .i64 r.c, .int .i64 r.i, .int .i64 (hi r.s), .int .u64 (lo r.s), .int .i64 r.l, .int .i64 r.m]
def R.zero : R := ⟨0, 0, 0, 0, 0⟩
def R.one (n : Int) : R := ⟨1, 1, n, n, n⟩
def R.none : R := ⟨1, 0, 0, 0, 0⟩
/-- may it be? -/
def R.fine (r : R) : Prop :=
  if r.i = 0 then r.s = 0 ∧ r.l = 0 ∧ r.m = 0
  else if r.i = 1 then r.l = r.m ∧ r.s = r.l
  else r.l ≤ r.m ∧ r.l + r.m + r.l * (r.i - 2) ≤ r.s ∧ r.s ≤ r.l + r.m + r.m * (r.i - 2)
instance (r : R) : Decidable r.fine := by unfold R.fine; infer_instance
structure R.Num (r : R) : Prop where
  c0 : 0 ≤ r.c
  c1 : r.c ≤ 1073741824
  i0 : 0 ≤ r.i
  i1 : r.i ≤ r.c
  l : I64 r.l
  m : I64 r.m
  s : S120 r.s
structure R.Ok (r : R) : Prop extends R.Num r where
  fine : r.fine
def R.both (r t : R) : R :=
  if t.i = 0 then ⟨r.c + t.c, r.i, r.s, r.l, r.m⟩
  else if r.i > 0 then ⟨r.c + t.c, r.i + t.i, r.s + t.s, min r.l t.l, max r.m t.m⟩
  else ⟨r.c + t.c, r.i + t.i, r.s + t.s, t.l, t.m⟩

theorem mul_S120 {n x : Int} (h : I64 n) (h0 : 0 ≤ x) (h1 : x ≤ 4294967296) : -39614081257132168796771975168 ≤ n * x ∧ n * x ≤ 39614081257132168796771975168 := by
  unfold I64 at h
  have a1 : -9223372036854775808 * x ≤ n * x := Int.mul_le_mul_of_nonneg_right h.1 h0
  have a2 : n * x ≤ 9223372036854775807 * x := Int.mul_le_mul_of_nonneg_right h.2 h0
  omega

theorem R.Ok.zero : R.zero.Ok := by
  refine ⟨⟨?_, ?_, ?_, ?_, ?_, ?_, ?_⟩, ?_⟩ <;> simp [R.zero, I64, S120, R.fine]
theorem R.Ok.one {n : Int} (h : I64 n) : (R.one n).Ok := by
  unfold I64 at h
  refine ⟨⟨?_, ?_, ?_, ?_, ?_, ?_, ?_⟩, ?_⟩ <;> simp [R.one, I64, S120, R.fine] <;> omega
theorem R.Ok.none : R.none.Ok := by
  refine ⟨⟨?_, ?_, ?_, ?_, ?_, ?_, ?_⟩, ?_⟩ <;> simp [R.none, I64, S120, R.fine]

/-- what is fine with a number: the sum lies between -/
theorem R.Ok.mid {r : R} (h : r.Ok) (hi : r.i ≠ 0) : r.l ≤ r.m ∧ r.m + r.l * (r.i - 1) ≤ r.s ∧ r.s ≤ r.l + r.m * (r.i - 1) := by
  have hf := h.fine
  unfold R.fine at hf
  rw [if_neg hi] at hf
  by_cases h1 : r.i = 1
  · rw [if_pos h1] at hf; rw [h1]; omega
  · rw [if_neg h1] at hf
    have e1 : r.l * (r.i - 1) = r.l * (r.i - 2) + r.l := by rw [show r.i - 1 = (r.i - 2) + 1 by omega, Int.mul_add]; omega
    have e2 : r.m * (r.i - 1) = r.m * (r.i - 2) + r.m := by rw [show r.i - 1 = (r.i - 2) + 1 by omega, Int.mul_add]; omega
    omega

theorem R.fine_of_mid {r : R} (hi : 1 ≤ r.i) (h : r.l ≤ r.m ∧ r.m + r.l * (r.i - 1) ≤ r.s ∧ r.s ≤ r.l + r.m * (r.i - 1)) : r.fine := by
  unfold R.fine
  rw [if_neg (by omega)]
  by_cases h1 : r.i = 1
  · rw [if_pos h1]; rw [h1] at h; simp at h; omega
  · rw [if_neg h1]
    have e1 : r.l * (r.i - 1) = r.l * (r.i - 2) + r.l := by rw [show r.i - 1 = (r.i - 2) + 1 by omega, Int.mul_add]; omega
    have e2 : r.m * (r.i - 1) = r.m * (r.i - 2) + r.m := by rw [show r.i - 1 = (r.i - 2) + 1 by omega, Int.mul_add]; omega
    omega

theorem R.Ok.sum_bd {r : R} (h : r.Ok) : -9223372036854775808 * r.i ≤ r.s ∧ r.s ≤ 9223372036854775808 * r.i := by
  by_cases hi : r.i = 0
  · have hf := h.fine; unfold R.fine at hf; rw [if_pos hi] at hf; omega
  · have := h.mid hi
    have hl := h.l; have hm := h.m; have i0 := h.i0
    unfold I64 at hl hm
    have a1 : -9223372036854775808 * (r.i - 1) ≤ r.l * (r.i - 1) := Int.mul_le_mul_of_nonneg_right hl.1 (by omega)
    have a2 : r.m * (r.i - 1) ≤ 9223372036854775807 * (r.i - 1) := Int.mul_le_mul_of_nonneg_right hm.2 (by omega)
    omega

theorem R.Ok.both {r t : R} (hr : r.Ok) (ht : t.Ok) (hc : r.c + t.c ≤ 1073741824) : (r.both t).Ok := by
  have r0 := hr.c0; have t0 := ht.c0; have r1 := hr.i0; have r2 := hr.i1; have t1 := ht.i0; have t2 := ht.i1
  have sr := hr.sum_bd; have st := ht.sum_bd
  unfold R.both
  by_cases h1 : t.i = 0
  · rw [if_pos h1]
    refine ⟨⟨by simp; omega, by simpa using hc, by simpa using r1, by simp; omega, hr.l, hr.m, hr.s⟩, ?_⟩
    have := hr.fine
    unfold R.fine at *; exact this
  · rw [if_neg h1]
    have mt := ht.mid h1
    by_cases h2 : r.i > 0
    · rw [if_pos h2]
      have mr := hr.mid (by omega)
      have rl := hr.l; have rm := hr.m; have tl := ht.l; have tm := ht.m
      refine ⟨⟨by simp; omega, by simpa using hc, by simp; omega, by simp; omega, ?_, ?_, ?_⟩, R.fine_of_mid (by simp; omega) ?_⟩
      · unfold I64 at *; simp only; omega
      · unfold I64 at *; simp only; omega
      · unfold S120; simp only; omega
      · simp only
        generalize hL : min r.l t.l = L
        generalize hM : max r.m t.m = M
        have b1 : L * (r.i - 1) ≤ r.l * (r.i - 1) := Int.mul_le_mul_of_nonneg_right (by omega) (by omega)
        have b2 : L * (t.i - 1) ≤ t.l * (t.i - 1) := Int.mul_le_mul_of_nonneg_right (by omega) (by omega)
        have b3 : r.m * (r.i - 1) ≤ M * (r.i - 1) := Int.mul_le_mul_of_nonneg_right (by omega) (by omega)
        have b4 : t.m * (t.i - 1) ≤ M * (t.i - 1) := Int.mul_le_mul_of_nonneg_right (by omega) (by omega)
        have e1 : L * (r.i + t.i - 1) = L * (r.i - 1) + L * (t.i - 1) + L := by
          rw [show r.i + t.i - 1 = (r.i - 1) + (t.i - 1) + 1 by omega, Int.mul_add, Int.mul_add]; omega
        have e2 : M * (r.i + t.i - 1) = M * (r.i - 1) + M * (t.i - 1) + M := by
          rw [show r.i + t.i - 1 = (r.i - 1) + (t.i - 1) + 1 by omega, Int.mul_add, Int.mul_add]; omega
        omega
    · rw [if_neg h2]
      have h3 : r.i = 0 := by omega
      have fr := hr.fine; unfold R.fine at fr; rw [if_pos h3] at fr
      refine ⟨⟨by simp; omega, by simpa using hc, by simp; omega, by simp; omega, ht.l, ht.m, ?_⟩, R.fine_of_mid (by simp; omega) ?_⟩
      · unfold S120; simp only; omega
      · simp only [h3, fr.1, Int.zero_add]; exact mt

theorem R.both_c (r t : R) : (r.both t).c = r.c + t.c := by
  unfold R.both; split
  · rfl
  · split <;> rfl

attribute [irreducible] hi lo
end Go.Proofs.YtmleipmilmeclaaDoor

/- A block that is known whole. -/
namespace Go.Proofs.YtmleipmilmeclaaDoor
open Go.RowKit

/-- block b holds just these cells, none of them frozen -/
def Blk (w : World) (b : Nat) (cs : Array Value) (T : TypeId) : Prop := w.heap[b]? = some (.cells cs T (0, 0))

theorem Blk.cell {w : World} {b : Nat} {cs : Array Value} {T : TypeId} (h : Blk w b cs T) (k : Nat) : w.cell? ⟨b, k, none⟩ = cs[k]? := by
  unfold Blk at h; simp [World.cell?, h]
theorem Blk.frozen {w : World} {b : Nat} {cs : Array Value} {T : TypeId} (h : Blk w b cs T) (k : Nat) : w.frozen? ⟨b, k, none⟩ = false := by
  unfold Blk at h; simp [World.frozen?, h]
theorem Blk.lt {w : World} {b : Nat} {cs : Array Value} {T : TypeId} (h : Blk w b cs T) : b < w.heap.size := by
  unfold Blk at h
  rcases Nat.lt_or_ge b w.heap.size with h1 | h1
  · exact h1
  · rw [Array.getElem?_eq_none h1] at h; cases h
theorem Blk.new (w : World) (cs : Array Value) (T : TypeId) : Blk (w.alloc (.cells cs T)) w.heap.size cs T := by
  show (w.heap.push _)[w.heap.size]? = _
  simp
theorem Blk.alloc {w : World} {b : Nat} {cs : Array Value} {T : TypeId} (h : Blk w b cs T) (o : Obj) : Blk (w.alloc o) b cs T := by
  unfold Blk at *; rw [Below.heap_alloc _ _ _ (Blk.lt h)]; exact h
theorem Blk.drew {w : World} {b : Nat} {cs : Array Value} {T : TypeId} (h : Blk w b cs T) : Blk w.drew b cs T := h
theorem Blk.below {w w' : World} {B b : Nat} {cs : Array Value} {T : TypeId} (h : Blk w b cs T) (hb : Below B w w') (hl : b < B) : Blk w' b cs T := by
  unfold Blk at *; rw [hb.block b hl]; exact h
theorem Blk.kept {w w' : World} {b : Nat} {cs : Array Value} {T : TypeId} (h : Blk w b cs T) (hb : Below w.heap.size w w') : Blk w' b cs T := h.below hb h.lt
theorem Blk.set {w : World} {b : Nat} {cs : Array Value} {T : TypeId} (h : Blk w b cs T) (k : Nat) (v : Value) : Blk (w.setCell ⟨b, k, none⟩ v) b (cs.setIfInBounds k v) T := by
  unfold Blk at *; simp [World.setCell, Array.getElem?_modify, h]
theorem Blk.far {w : World} {b : Nat} {cs : Array Value} {T : TypeId} (h : Blk w b cs T) {a : Addr} (v : Value) (hne : b ≠ a.block) : Blk (w.setCell a v) b cs T := by
  unfold Blk at *; rw [Below.heap_setCell _ _ _ _ hne]; exact h

theorem bcell {W w1 : World} (hb : Below W.heap.size W w1) : (∀ b o, b < W.heap.size → w1.cell? ⟨b, o, none⟩ = W.cell? ⟨b, o, none⟩) ∧ (∀ b o, b < W.heap.size → w1.frozen? ⟨b, o, none⟩ = W.frozen? ⟨b, o, none⟩) :=
  ⟨fun b o h => hb.cell (p := ⟨b, o, none⟩) h, fun b o h => hb.frozen (p := ⟨b, o, none⟩) h⟩
theorem Below.after {B : Nat} {a W w1 : World} (h : Below B a W) (hb : Below W.heap.size W w1) (hs : B ≤ W.heap.size) : Below B a w1 := h.trans (hb.mono hs)
theorem ret_bool {a b : Bool} (h : a = b) : Ending.returned (.bool a) = .returned (.bool b) := by rw [h]
theorem ret_int {k : IntKind} {a b : Int} (h : a = b) : Ending.returned (.int k a) = .returned (.int k b) := by rw [h]

/-- a block that is known whole, and the rule by which its cells are read: what a region that draws its order holds -/
abbrev Hold (b : Nat) (cs : Array Value) (T : TypeId) (w : World) : Prop := Blk w b cs T ∧ ∀ k, w.cell? ⟨b, k, none⟩ = cs[k]?
theorem Hold.mk' {w : World} {b : Nat} {cs : Array Value} {T : TypeId} (h : Blk w b cs T) : Hold b cs T w := ⟨h, h.cell⟩
theorem Hold.alloc {w : World} {b : Nat} {cs : Array Value} {T : TypeId} (h : Hold b cs T w) (o : Obj) : Hold b cs T (w.alloc o) := .mk' (h.1.alloc o)
theorem Hold.drew {w : World} {b : Nat} {cs : Array Value} {T : TypeId} (h : Hold b cs T w) : Hold b cs T w.drew := .mk' h.1
theorem Hold.kept {w w' : World} {b : Nat} {cs : Array Value} {T : TypeId} (h : Hold b cs T w) (hb : Below w.heap.size w w') : Hold b cs T w' := .mk' (h.1.kept hb)
theorem Hold.far {w : World} {b : Nat} {cs : Array Value} {T : TypeId} (h : Hold b cs T w) {a : Addr} (v : Value) (hne : b ≠ a.block) : Hold b cs T (w.setCell a v) := .mk' (h.1.far v hne)
theorem Hold.other {w : World} {b : Nat} {cs : Array Value} {T : TypeId} {o : Obj} (h : Hold b cs T (w.alloc o)) (hl : b < w.heap.size) (o' : Obj) : Hold b cs T (w.alloc o') := by
  have h1 := h.1
  refine .mk' ?_
  unfold Blk at *
  rw [Below.heap_alloc _ _ _ hl] at *; exact h1
theorem Blk.two {w : World} {b : Nat} {p q : Value} {T : TypeId} (h : Blk w b #[p, q] T) (x y : Value) : Blk ((w.setCell ⟨b, 0, none⟩ x).setCell ⟨b, 1, none⟩ y) b #[x, y] T :=
  (h.set 0 x).set 1 y
theorem Blk.new' {w : World} {cs : Array Value} {T : TypeId} {n : Nat} (h : n = w.heap.size) : Blk (w.alloc (.cells cs T)) n cs T := h ▸ Blk.new w cs T
abbrev Hold2 (b : Nat) (cs : Array Value) (T : TypeId) (b' : Nat) (cs' : Array Value) (T' : TypeId) (w : World) : Prop := Hold b cs T w ∧ Hold b' cs' T' w
section
variable {w w' : World} {b b' : Nat} {cs cs' : Array Value} {T T' : TypeId}
theorem Hold2.mk' (h : Blk w b cs T) (h' : Blk w b' cs' T') : Hold2 b cs T b' cs' T' w := ⟨.mk' h, .mk' h'⟩
theorem Hold2.alloc (h : Hold2 b cs T b' cs' T' w) (o : Obj) : Hold2 b cs T b' cs' T' (w.alloc o) := ⟨h.1.alloc o, h.2.alloc o⟩
theorem Hold2.drew (h : Hold2 b cs T b' cs' T' w) : Hold2 b cs T b' cs' T' w.drew := ⟨h.1.drew, h.2.drew⟩
theorem Hold2.kept (h : Hold2 b cs T b' cs' T' w) (hb : Below w.heap.size w w') : Hold2 b cs T b' cs' T' w' := ⟨h.1.kept hb, h.2.kept hb⟩
theorem Hold2.far (h : Hold2 b cs T b' cs' T' w) {a : Addr} (v : Value) (hne : b ≠ a.block) (hne' : b' ≠ a.block) : Hold2 b cs T b' cs' T' (w.setCell a v) := ⟨h.1.far v hne, h.2.far v hne'⟩
theorem Hold2.far2 (h : Hold2 b cs T b' cs' T' w) {a : Addr} (v : Value) {a' : Addr} (v' : Value) (hne : b ≠ a.block) (hne' : b' ≠ a.block) (hm : b ≠ a'.block) (hm' : b' ≠ a'.block) :
    Hold2 b cs T b' cs' T' ((w.setCell a v).setCell a' v') := (h.far v hne hne').far v' hm hm'
end
theorem Below.set {B : Nat} {a w : World} (h : Below B a w) {b o : Nat} (hp : B ≤ b) (u : Value) : Below B a (w.setCell ⟨b, o, none⟩ u) := h.setCell hp u
theorem Blk.off {w : World} {b : Nat} {cs : Array Value} {T : TypeId} (h : Blk w b cs T) {b' o : Nat} (v : Value) (hne : b ≠ b') : Blk (w.setCell ⟨b', o, none⟩ v) b cs T := h.far v hne
theorem Hold.off {w : World} {b : Nat} {cs : Array Value} {T : TypeId} (h : Hold b cs T w) {b' o : Nat} (v : Value) (hne : b ≠ b') : Hold b cs T (w.setCell ⟨b', o, none⟩ v) := h.far v hne
theorem Hold2.off {w : World} {b : Nat} {cs : Array Value} {T : TypeId} {c : Nat} {ds : Array Value} {U : TypeId} (h : Hold2 b cs T c ds U w) {b' o : Nat} (v : Value) (hne : b ≠ b') (hm : c ≠ b') : Hold2 b cs T c ds U (w.setCell ⟨b', o, none⟩ v) := h.far v hne hm
abbrev Hold3 (b : Nat) (cs : Array Value) (T : TypeId) (b' : Nat) (cs' : Array Value) (T' : TypeId) (c : Nat) (ds : Array Value) (U : TypeId) (w : World) : Prop := Hold b cs T w ∧ Hold b' cs' T' w ∧ Hold c ds U w
section
variable {w w' : World} {b b' c : Nat} {cs cs' ds : Array Value} {T T' U : TypeId}
theorem Hold3.mk' (h : Blk w b cs T) (h' : Blk w b' cs' T') (k : Blk w c ds U) : Hold3 b cs T b' cs' T' c ds U w := ⟨.mk' h, .mk' h', .mk' k⟩
theorem Hold3.alloc (h : Hold3 b cs T b' cs' T' c ds U w) (o : Obj) : Hold3 b cs T b' cs' T' c ds U (w.alloc o) := ⟨h.1.alloc o, h.2.1.alloc o, h.2.2.alloc o⟩
theorem Hold3.drew (h : Hold3 b cs T b' cs' T' c ds U w) : Hold3 b cs T b' cs' T' c ds U w.drew := ⟨h.1.drew, h.2.1.drew, h.2.2.drew⟩
theorem Hold3.kept (h : Hold3 b cs T b' cs' T' c ds U w) (hb : Below w.heap.size w w') : Hold3 b cs T b' cs' T' c ds U w' := ⟨h.1.kept hb, h.2.1.kept hb, h.2.2.kept hb⟩
theorem Hold3.off (h : Hold3 b cs T b' cs' T' c ds U w) {g o : Nat} (v : Value) (h1 : b ≠ g) (h2 : b' ≠ g) (h3 : c ≠ g) : Hold3 b cs T b' cs' T' c ds U (w.setCell ⟨g, o, none⟩ v) := ⟨h.1.off v h1, h.2.1.off v h2, h.2.2.off v h3⟩
end
theorem Hold2.other {w : World} {b : Nat} {cs : Array Value} {T : TypeId} {c : Nat} {ds : Array Value} {U : TypeId} {o : Obj} (h : Hold2 b cs T c ds U (w.alloc o)) (hl : b < w.heap.size) (hm : c < w.heap.size) (o' : Obj) : Hold2 b cs T c ds U (w.alloc o') := ⟨h.1.other hl o', h.2.other hm o'⟩
end Go.Proofs.YtmleipmilmeclaaDoor
