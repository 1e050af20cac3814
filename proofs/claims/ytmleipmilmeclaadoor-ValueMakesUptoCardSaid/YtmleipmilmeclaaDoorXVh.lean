/- A region that draws: operations that a guard passes over, all at once. -/
import Derived.Test.YtmleipmilmeclaaDoorXUa
import Derived.Deep.RegionWith
import Derived.Test.YtmleipmilmeclaaDoorXWl
import Derived.Deep.RegionHeld3
namespace Go.Proofs.YtmleipmilmeclaaDoor
open Go.RowKit

/-- May these operations come up one after the other, and does a guard pass each of them over? -/
def skipOk (md : Region.Mode) (ops : Array Oper) : List (Nat × Nat) → Array Bool → Act → Bool
  | [], _, _ => true
  | (i, d) :: r, l, a => match ops[i]? with
    | none => false
    | some o => (o.dst == some d) && (Region.free md ops l i && ((Region.ready md ops l).contains i && (!(Region.wanted o (yielded ops a.tmps)) && skipOk md ops r (l.setIfInBounds i true) (a.put (some d) undef))))

theorem wpAny_skips {P : Program} {md : Region.Mode} {ops : Array Oper} {Q : Exit → Act → World → Prop} {w : World} (is : List (Nat × Nat)) (hs : Region.noSelect ops = true)
    (hQ : ∀ (c : _) (a : Act) (d : Tmp) (v : Value) (w : World), Q (.panic c) (a.put (some d) v) w → Q (.panic c) a w) :
    ∀ (n fuel : Nat) (l : Array Bool) (a : Act), n = fuel + is.length → skipOk md ops is l a = true → wpAny P md ops Q fuel (is.foldl (fun l x => l.setIfInBounds x.1 true) l) (is.foldl (fun a x => a.put (some x.2) undef) a) w → wpAny P md ops Q n l a w := by
  induction is with
  | nil => intro n fuel l a hn _ h; simpa [hn] using h
  | cons x r ih =>
    intro n fuel l a hn ho h
    obtain ⟨i, d⟩ := x
    simp only [skipOk] at ho
    split at ho
    · cases ho
    · rename_i o hi
      simp only [Bool.and_eq_true, Bool.not_eq_true', beq_iff_eq] at ho
      obtain ⟨hd, hf, hr, hw, ho⟩ := ho
      obtain rfl : n = (fuel + r.length) + 1 := by simp at hn; omega
      refine wpAny_take (v := undef) hi hs hf hr (fun c a w => by rw [hd]; exact hQ c a d _ w) (Or.inr ⟨hw, rfl⟩) ?_
      rw [hd]
      exact ih _ fuel _ _ rfl ho h

end Go.Proofs.YtmleipmilmeclaaDoor

/- A region that draws, with a condition held: operations that a guard passes over, all at once. -/
namespace Go.Proofs.YtmleipmilmeclaaDoor
open Go.RowKit

theorem wpAnyH_skips {P : Program} {md : Region.Mode} {ops : Array Oper} {Q : Exit → Act → World → Prop} {S : World → Prop} {w : World} (hS : S w) (is : List (Nat × Nat)) (hs : Region.noSelect ops = true)
    (hQ : ∀ (c : _) (a : Act) (d : Tmp) (v : Value) (w : World), Q (.panic c) (a.put (some d) v) w → Q (.panic c) a w) :
    ∀ (n fuel : Nat) (l : Array Bool) (a : Act), n = fuel + is.length → skipOk md ops is l a = true → wpAnyH P md ops Q S fuel (is.foldl (fun l x => l.setIfInBounds x.1 true) l) (is.foldl (fun a x => a.put (some x.2) undef) a) w → wpAnyH P md ops Q S n l a w := by
  induction is with
  | nil => intro n fuel l a hn _ h; simpa [hn] using h
  | cons x r ih =>
    intro n fuel l a hn ho h
    obtain ⟨i, d⟩ := x
    simp only [skipOk] at ho
    split at ho
    · cases ho
    · rename_i o hi
      simp only [Bool.and_eq_true, Bool.not_eq_true', beq_iff_eq] at ho
      obtain ⟨hd, hf, hr, hw, ho⟩ := ho
      obtain rfl : n = (fuel + r.length) + 1 := by simp at hn; omega
      refine wpAnyH_take (v := undef) hi hs hf hr (fun c a w => by rw [hd]; exact hQ c a d _ w) (Or.inr ⟨hw, rfl⟩) hS ?_
      rw [hd]
      exact ih _ fuel _ _ rfl ho h

theorem cellB {n₀ : Nat} {A B : World} {b o : Nat} {v : Value} (h : Below n₀ A B) (hb : b < n₀) (c : A.cell? ⟨b, o, none⟩ = some v) : B.cell? ⟨b, o, none⟩ = some v := (h.cell (p := ⟨b, o, none⟩) hb).trans c
/-- A kid's five cells. -/
theorem KidAt.c {W : World} {b o : Nat} {k n : Int} {s : ByteArray} {p q : Option Addr} {np cp nq cq : Nat} (h : KidAt W b o ⟨k, n, s, p, np, cp, q, nq, cq⟩) :
    W.cell? ⟨b, o, none⟩ = some (.int .i64 k) ∧ W.cell? ⟨b, o + 1, none⟩ = some (.int .i64 n) ∧ W.cell? ⟨b, o + 2, none⟩ = some (.string s) ∧ W.cell? ⟨b, o + 3, none⟩ = some (.slice p np cp) ∧ W.cell? ⟨b, o + 4, none⟩ = some (.slice q nq cq) :=
  ⟨h.a0, h.a1, h.a2, h.a3, h.a4⟩

end Go.Proofs.YtmleipmilmeclaaDoor
