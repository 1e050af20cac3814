/- Walks: is a string a text? -/
import Derived.Test.YtmleipmilmeclaaDoorUb
namespace Go.Proofs.YtmleipmilmeclaaDoor
open Go.RowKit
attribute [local go_sem ↓] Go.wp_at_zero Go.wp_at_succ
attribute [local go_sem] BigFrame.eval_global

theorem Bs.tail {w : World} {b o : Nat} {x : Int} {L : List Int} (h : Bs w b o (x :: L)) : Bs w b (o + 1) L := fun k hk => by
  have := h (k + 1) (by simpa using hk)
  rw [show o + (k + 1) = o + 1 + k by omega] at this
  simpa using this
theorem Bs.take {w : World} {b o : Nat} {L : List Int} (h : Bs w b o L) (n : Nat) : Bs w b o (L.take n) := fun k hk => by
  have := h k (by simp at hk; omega)
  simpa using this
theorem Bs.drop {w : World} {b o : Nat} {L : List Int} (h : Bs w b o L) (n : Nat) : Bs w b (o + n) (L.drop n) := fun k hk => by
  have := h (n + k) (by simp at hk; omega)
  rw [show o + (n + k) = o + n + k by omega] at this
  simpa using this
theorem Bs.below {B : Nat} {w w' : World} {b o : Nat} {L : List Int} (h : Bs w b o L) (hb : Below B w w') (hB : b < B) : Bs w' b o L := fun k hk => (hb.cell (p := ⟨b, o + k, none⟩) hB).trans (h k hk)

theorem nextP_short {x : Int} {L : List Int} (h : ldN x > L.length + 1) : nextP (x :: L) = (0, 0) := by
  simp only [nextP]; rw [if_pos (Or.inr h)]
theorem nextP_none {x : Int} {L : List Int} (h : ldN x = 0) : nextP (x :: L) = (0, 0) := by
  simp only [nextP]; rw [if_pos (Or.inl h)]
theorem nextP_fit {x : Int} {L : List Int} (h0 : ldN x ≠ 0) (h : ldN x ≤ L.length + 1) : nextP (x :: L) = finP (ldN x) (contP (maskB x) (L.take (ldN x - 1).toNat)) := by
  simp only [nextP]; rw [if_neg (by omega)]

theorem next_any (b o cap : Nat) (x : Int) (L : List Int) (hcap : L.length + 1 ≤ cap) (hL : ∀ y ∈ x :: L, Byte y) (w : World) (hb : Bs w b o (x :: L)) (hB : b < w.heap.size) (hg : Gl w) :
    Calls Tryd.prog 93 #[.slice (some ⟨b, o, none⟩) (L.length + 1) cap] w fun e w' => e = .returned (.tuple #[.int .i64 (nextP (x :: L)).1, .int .i64 (nextP (x :: L)).2]) ∧ Below w.heap.size w w' := by
  have hx : Byte x := hL x (by simp)
  have c0 := hb 0 (by simp)
  simp only [List.getElem_cons_zero, Nat.add_zero] at c0
  have hT : ∀ n, ∀ y ∈ L.take n, Byte y := fun n y hy => hL y (List.mem_cons_of_mem _ (List.mem_of_mem_take hy))
  rcases ld_cases x with h | h | h | h | h
  · rw [nextP_none h.1]
    exact next0 x hx h b o _ cap (by omega) w c0 hg
  · rw [nextP_fit (by omega) (by omega), h.1]
    exact fit1 x hx ⟨h.1, h.2.1, h.2.2.1⟩ b o _ cap [] rfl (by omega) hcap w c0 (by simp) (fun k hk => by simp at hk) hB hg _ (by simp [maskB, h.2.2.2])
  · by_cases hs : L.length + 1 < 2
    · rw [nextP_short (by omega)]
      exact short2 x hx ⟨h.1, h.2.1, h.2.2.1⟩ b o _ cap (by omega) hs w c0 hg
    · rw [nextP_fit (by omega) (by omega), h.1]
      have hm : maskB x = x % 32 := by unfold maskB; rw [if_neg (by omega), if_pos (by omega)]
      exact fit2 x hx ⟨h.1, h.2.1, h.2.2.1⟩ b o _ cap (L.take 1) (by simp; omega) (by omega) hcap w c0 (hT 1) (hb.tail.take 1) hB hg _ (by rw [hm]; rfl)
  · by_cases hs : L.length + 1 < 3
    · rw [nextP_short (by omega)]
      exact short3 x hx ⟨h.1, h.2.1, h.2.2.1⟩ b o _ cap (by omega) hs w c0 hg
    · rw [nextP_fit (by omega) (by omega), h.1]
      have hm : maskB x = x % 16 := by unfold maskB; rw [if_neg (by omega), if_neg (by omega), if_pos (by omega)]
      exact fit3 x hx ⟨h.1, h.2.1, h.2.2.1⟩ b o _ cap (L.take 2) (by simp; omega) (by omega) hcap w c0 (hT 2) (hb.tail.take 2) hB hg _ (by rw [hm]; rfl)
  · by_cases hs : L.length + 1 < 4
    · rw [nextP_short (by omega)]
      exact short4 x hx ⟨h.1, h.2.1, h.2.2.1⟩ b o _ cap (by omega) hs w c0 hg
    · rw [nextP_fit (by omega) (by omega), h.1]
      have hm : maskB x = x % 8 := by unfold maskB; rw [if_neg (by omega), if_neg (by omega), if_neg (by omega), if_pos (by omega)]
      exact fit4 x hx ⟨h.1, h.2.1, h.2.2.1⟩ b o _ cap (L.take 3) (by simp; omega) (by omega) hcap w c0 (hT 3) (hb.tail.take 3) hB hg _ (by rw [hm]; rfl)

/-- A code point's size is at least one, and at most what there is. -/
theorem nextP_le (L : List Int) : (nextP L).2 = 0 ∨ 1 ≤ (nextP L).2 ∧ (nextP L).2 ≤ L.length ∧ (nextP L).2 ≤ 4 := by
  match L with
  | [] => exact .inl rfl
  | x :: L =>
    by_cases h0 : ldN x = 0
    · rw [nextP_none h0]; exact .inl rfl
    · by_cases h1 : ldN x > L.length + 1
      · rw [nextP_short h1]; exact .inl rfl
      · rw [nextP_fit h0 (by omega)]
        have hl : 1 ≤ ldN x ∧ ldN x ≤ 4 := by unfold ldN at *; (repeat' split) <;> first | omega | (simp_all; done)
        cases contP (maskB x) (L.take (ldN x - 1).toNat) with
        | none => exact .inl rfl
        | some p =>
          simp only [finP]
          split
          · right; simp only [List.length_cons]; omega
          · exact .inl rfl

/-- May bytes be a text? -/
def vldF : Nat → List Int → Bool
  | _, [] => true
  | 0, _ :: _ => false
  | f + 1, x :: L => decide ((nextP (x :: L)).2 ≠ 0) && vldF f ((x :: L).drop (nextP (x :: L)).2.toNat)
def vld (L : List Int) : Bool := vldF L.length L
theorem vldF_fuel : ∀ (f g : Nat) (L : List Int), L.length ≤ f → L.length ≤ g → vldF f L = vldF g L
  | f, g, [], _, _ => by cases f <;> cases g <;> rfl
  | 0, _, x :: L, h, _ => by simp at h
  | _, 0, x :: L, _, h => by simp at h
  | f + 1, g + 1, x :: L, hf, hg => by
    simp only [vldF]
    rcases nextP_le (x :: L) with h | ⟨h1, h2, _⟩
    · simp [h]
    · rw [vldF_fuel f g _ (by simp only [List.length_drop, List.length_cons] at *; omega) (by simp only [List.length_drop, List.length_cons] at *; omega)]
theorem vld_cons (x : Int) (L : List Int) : vld (x :: L) = (decide ((nextP (x :: L)).2 ≠ 0) && vld ((x :: L).drop (nextP (x :: L)).2.toNat)) := by
  unfold vld
  show vldF (L.length + 1) (x :: L) = _
  simp only [vldF]
  rcases nextP_le (x :: L) with h | ⟨h1, h2, _⟩
  · simp [h]
  · rw [vldF_fuel L.length _ _ (by simp only [List.length_drop, List.length_cons] at *; omega) (Nat.le_refl _)]

end Go.Proofs.YtmleipmilmeclaaDoor
