/- Walks: the kinds of what is told. -/
import Derived.Test.YtmleipmilmeclaaDoorWf
import Derived.Laws.EntriesVeiled
namespace Go.Proofs.YtmleipmilmeclaaDoor
open Go.RowKit
attribute [local go_sem ↓] Go.wp_at_zero Go.wp_at_succ

abbrev fnV (k : Nat) : Value := .func (.func k) #[] #[]
abbrev sCount : Value := .string { data := #[95, 99, 111, 117, 110, 116] }
abbrev sSum : Value := .string { data := #[95, 115, 117, 109] }
abbrev sMin : Value := .string { data := #[95, 109, 105, 110] }
abbrev sMax : Value := .string { data := #[95, 109, 97, 120] }
abbrev sStats : Value := .string { data := #[95, 115, 116, 97, 116, 115] }
abbrev kc0 : Array Value := #[.string ⟨#[]⟩, .nilFunc, sCount, fnV 66, sSum, fnV 67, sMin, fnV 68, sMax, fnV 70]
abbrev kcL : List Value := [.string ⟨#[]⟩, .nilFunc, sCount, fnV 66, sSum, fnV 67, sMin, fnV 68, sMax, fnV 70, sStats, fnV 53]

set_option maxHeartbeats 400000 in
theorem simple_any (w : World) :
    Calls Tryd.prog 52 #[] w fun e w' => e = .returned (.agg kc0) ∧ Below w.heap.size w w' := by
  go_enter Tryd.func52, Tryd.ntmps52
  go_wp2
  refine bodyPost_ret (v := .agg kc0) (by simp [results, Tryd.results52, go_sem]) rfl ⟨rfl, by go_grown⟩

theorem info71 : (Tryd.prog.info? 71).map (fun i => (i.zero, i.size, i.bytes)) = some (some (.agg #[.string ⟨#[]⟩, .nilFunc]), 2, 24) := by kernel_rfl

/-- what kinds hands back lies in block g -/
def KindsAt (w : World) (g : Nat) : Prop := g < w.heap.size ∧ ∀ j u, kcL[j]? = some u → w.cell? ⟨g, j, none⟩ = some u

theorem ownsRow_cells {w : World} {base : Nat} {e : TypeId} {size : Nat} {v : Value} {n : Nat} {xs : List Value} (h : w.ownsRow base e size v n xs) (hn : 0 < n) :
    ∃ g cap, v = .slice (some ⟨g, 0, none⟩) n cap ∧ base ≤ g ∧ g < w.heap.size ∧ n ≤ cap ∧ cap ≤ maxLen ∧ ∀ j u, xs[j]? = some u → w.cell? ⟨g, j, none⟩ = some u := by
  obtain ⟨hl, h2⟩ := h
  rcases h2 with ⟨_, h0⟩ | ⟨g, cap, cur, hv, hb, hg, hc1, hc2, hs, ht⟩
  · omega
  · refine ⟨g, cap, hv, hb, ?_, hc1, hc2, fun j u hj => ?_⟩
    · rcases Nat.lt_or_ge g w.heap.size with hlt | hge
      · exact hlt
      · rw [Array.getElem?_eq_none hge] at hg; cases hg
    · rw [← ht] at hj
      have hjl : j < (cur.toList.take (n * size)).length := by
        rcases Nat.lt_or_ge j (cur.toList.take (n * size)).length with h1 | h1
        · exact h1
        · rw [List.getElem?_eq_none h1] at hj; cases hj
      rw [List.getElem?_take] at hj
      split at hj
      · simp only [World.cell?, hg]
        simpa using hj
      · cases hj

set_option maxRecDepth 100000 in
set_option maxHeartbeats 1000000 in
theorem kinds_any (w : World) :
    Calls Tryd.prog 30 #[] w fun e w' => ∃ g cap, e = .returned (.slice (some ⟨g, 0, none⟩) 6 cap) ∧ 6 ≤ cap ∧ KindsAt w' g ∧ w.heap.size ≤ g ∧ Below w.heap.size w w' := by
  obtain ⟨i0, hi, hz0, hz1, hz2⟩ := info_parts info71
  go_enter Tryd.func30, Tryd.ntmps30
  go_wp2_with fail
  refine (simple_any _).mono ?_; rintro e w1 ⟨rfl, hb⟩; obtain ⟨hc, hf⟩ := bcell hb
  go_wp2_with fail
  go_ret
  refine ⟨w1.heap.size + 1 + 1, _, rfl, by simp [Question.cut], ⟨by simp, fun j u hj => ?_⟩, by have := hb.size; omega, ?_⟩
  · have hj12 : j < 12 := by
      rcases Nat.lt_or_ge j 12 with h1 | h1
      · exact h1
      · rw [List.getElem?_eq_none (by simpa using h1)] at hj; cases hj
    have hz : ∀ (W : World) (o : Obj) (n : Nat), n = W.heap.size → (W.alloc o).heap[n]? = some o := by
      intro W o n hn; subst hn; show (W.heap.push o)[W.heap.size]? = _; simp
    have hc : ∀ (W : World) (cs : Array Value) (T : TypeId) (n : Nat), n = W.heap.size → ((W.alloc (.cells cs T)).drew.cell? ⟨n, j, none⟩) = cs[j]? := by
      intro W cs T n hn
      show ((W.alloc (.cells cs T)).cell? ⟨n, j, none⟩) = cs[j]?
      simp only [World.cell?, hz W _ n hn]; rfl
    rw [hc _ _ _ _ (by simp), ← Array.append_assoc, Array.getElem?_append_left (by simpa using hj12)]
    rw [← hj, ← Array.getElem?_toList]
    rfl
  · repeat' (first | (with_reducible exact Below.refl _ _) | (with_reducible refine Below.alloc ?_ (by have := hb.size; go_size) _) | (with_reducible refine Below.drew ?_) | (with_reducible refine Below.after ?_ hb (by go_size)))
end Go.Proofs.YtmleipmilmeclaaDoor
