/- Walks: texts and objects, of their kinds. -/
import Derived.Test.YtmleipmilmeclaaDoorXUc
import Derived.Test.YtmleipmilmeclaaDoorXWk
namespace Go.Proofs.YtmleipmilmeclaaDoor
open Go.RowKit
attribute [local go_sem ↓] Go.wp_at_zero Go.wp_at_succ
attribute [local go_sem] BigFrame.eval_global

theorem check_any' (s : ByteArray) (hs : s.size < 4611686018427387904) (r : Int) (hr : (if vld (bytesL s) then 0 else 110) = r) (w : World) (hg : Gl w) :
    Calls Tryd.prog 96 #[.string s] w fun e w' => (∃ p, e = .returned (.tuple #[.int .i64 p, .int .i64 r])) ∧ Below w.heap.size w w' := by
  have h := Lib.hid (through_any s hs r hr w hg)
  clear hr
  go_enter Tryd.func96, Tryd.ntmps96
  go_wp2_with (go_at_call 100; refine h.out.mono ?_; rintro e w1 ⟨⟨a, p, rfl⟩, hb1⟩)
  refine bodyPost_ret (v := .tuple #[.int .i64 p, .int .i64 r]) (by simp [results, Tryd.results96, go_sem]) rfl ⟨⟨_, rfl⟩, hb1⟩

set_option maxRecDepth 100000 in
set_option maxHeartbeats 400000 in
theorem text_any (x : V5) (hs : x.s.size < 4611686018427387904) (w : World) (hg : Gl w) :
    Calls Tryd.prog 88 #[x.v] w fun e w' => e = .returned (.bool (decide (vld (bytesL x.s) = true ∧ x.n = 0 ∧ x.np = 0 ∧ x.nq = 0))) ∧ Below w.heap.size w w' := by
  have hb := fun w => bare_any x 0 x.s 0 w
  obtain ⟨k, xn, s, p, np, cp, q, nq, cq⟩ := x
  simp only at hs
  simp only [V5.v, V5.cs] at hb ⊢
  cases hv : vld (bytesL s)
  · have hc := Lib.hid (fun (w' : World) (h : Below w.heap.size w w') => check_any' s hs 110 (by simp [hv]) w' (hg.below h hg.lt h.size))
    clear hs hv
    go_enter Tryd.func88, Tryd.ntmps88
    go_wp2_with (first
      | (go_at_call 96; refine (hc.out _ (by go_grown)).mono ?_; rintro e w1 ⟨⟨p, rfl⟩, hb1⟩; obtain ⟨hc1, hf1⟩ := bcell hb1)
      | (go_at_call 95; refine (hb _).mono ?_; rintro e w1 ⟨rfl, hb1⟩))
    go_ret
    exact ⟨by simp, Below.after (by go_grown) hb1 (by go_size)⟩
  · have hc := Lib.hid (fun (w' : World) (h : Below w.heap.size w w') => check_any' s hs 0 (by simp [hv]) w' (hg.below h hg.lt h.size))
    clear hs hv
    go_enter Tryd.func88, Tryd.ntmps88
    go_wp2_with (first
      | (go_at_call 96; refine (hc.out _ (by go_grown)).mono ?_; rintro e w1 ⟨⟨p, rfl⟩, hb1⟩; obtain ⟨hc1, hf1⟩ := bcell hb1)
      | (go_at_call 95; refine (hb _).mono ?_; rintro e w2 ⟨rfl, hb2⟩))
    go_ret
    have z1 := hb1.size
    simp only [World.size_alloc] at z1
    exact ⟨by simp, Below.after (Below.after (by go_grown) hb1 (by go_size)) hb2 (by omega)⟩

/-- The keys up to the j-th are texts that rise. -/
def kOk (ks : List ByteArray) (j : Nat) : Prop := ∀ i (h : i < ks.length), i < j → vld (bytesL ks[i]) = true ∧ (0 < i → Op.bytesLess (ks[i - 1]).toList ks[i].toList = true)
theorem kOk_step {ks : List ByteArray} {j : Nat} (hj : j < ks.length) (h : kOk ks j) (h1 : vld (bytesL ks[j]) = true) (h2 : 0 < j → Op.bytesLess (ks[j - 1]).toList ks[j].toList = true) : kOk ks (j + 1) := fun i hi hij => by
  rcases Nat.lt_or_ge i j with h' | h'
  · exact h i hi h'
  · obtain rfl : i = j := by omega
    exact ⟨h1, h2⟩
theorem kOk_zero (ks : List ByteArray) : kOk ks 0 := fun i _ h => by omega
theorem nil_bytes : (⟨#[]⟩ : ByteArray).toList = [] := by rw [ByteArray.toList_eq]
theorem str_nil {s : ByteArray} (h : s.toList = []) : s = ⟨#[]⟩ := (str_eq s ⟨#[]⟩).1 (h.trans nil_bytes.symm)
theorem nat_beq2 (a b : Nat) : ((a : Int) == (b : Int)) = decide (a = b) := by
  by_cases h : a = b
  · subst h; simp
  · have : (a : Int) ≠ (b : Int) := by omega
    simp [h, this]
theorem if_zero {b : Bool} {r : Int} (hr : (if b then (0 : Int) else 110) = r) (h : r = 0) : b = true := by
  cases b
  · subst h; simp at hr
  · rfl
theorem if_other {b : Bool} {r : Int} (hr : (if b then (0 : Int) else 110) = r) (h : ¬r = 0) : b = false := by
  cases b
  · rfl
  · exact absurd hr.symm h

set_option maxRecDepth 100000 in
set_option maxHeartbeats 400000 in
theorem object_any (x : V5) (ks : List ByteArray) (b o : Nat) (hq : x.q = some ⟨b, o, none⟩) (hn : x.nq = ks.length) (w : World) (hks : ∀ i (h : i < ks.length), w.cell? ⟨b, o + i, none⟩ = some (.string ks[i])) (hB : b < w.heap.size) (hs : ∀ k ∈ ks, k.size < 4611686018427387904) (hkl : ks.length < 4611686018427387904) (hg : Gl w)
    (bb : Bool) (hbb : bb = true ↔ kOk ks ks.length ∧ x.n = 0 ∧ x.s = ⟨#[]⟩ ∧ x.np = ks.length) :
    Calls Tryd.prog 90 #[x.v] w fun e w' => e = .returned (.bool bb) ∧ Below w.heap.size w w' := by
  obtain ⟨k, xn, s, p, np, cp, q, nq, cq⟩ := x
  simp only [V5.v, V5.cs] at hq hn hbb ⊢
  subst hq hn
  have hc := Lib.hid (fun (k : ByteArray) (h : k ∈ ks) r hr (w' : World) (hw : Below w.heap.size w w') => check_any' k (hs k h) r hr w' (hg.below hw hg.lt hw.size))
  have hbb' := Lib.hid hbb
  clear hs hbb hg
  go_enter Tryd.func90, Tryd.ntmps90
  go_wp2_with fail
  go_loopw [10] (fun i wr => ∃ j : Nat, i = .int .i64 (j : Int) ∧ j ≤ ks.length ∧ kOk ks j ∧ Blk wr w.heap.size #[.int .i64 k, .int .i64 xn, .string s, .slice p np cp, .slice (some ⟨b, o, none⟩) ks.length cq] 119 ∧ Below w.heap.size w wr) (fun i _ => ks.length - (intOf i).toNat)
  case atStart => exact ⟨0, rfl, by omega, kOk_zero _, Blk.new _ _ _, by go_grown⟩
  case round =>
    obtain ⟨j, rfl, hj, hok, kb, hbw⟩ := hrel
    have z2 := hbw.size
    have lb : b < wr.heap.size := by omega
    have c0 := kb.cell 0
    have c1 := kb.cell 1
    have c2 := kb.cell 2
    have c3 := kb.cell 3
    have c4 := kb.cell 4
    have l := kb.lt
    simp at c0 c1 c2 c3 c4
    have hok' := Lib.hid hok
    clear hok
    by_cases hlt : j < ks.length
    · have d0 := (hbw.cell (p := ⟨b, o + j, none⟩) hB).trans (hks j hlt)
      obtain ⟨r, hr⟩ : ∃ r : Int, (if vld (bytesL ks[j]) then 0 else 110) = r := ⟨_, rfl⟩
      have hc2 := Lib.hid (fun (w' : World) (h : Below wr.heap.size wr w') => hc.out ks[j] (List.getElem_mem hlt) r hr w' (Below.after hbw h z2))
      have hst := Lib.hid (kOk_step hlt hok'.out)
      have hno := Lib.hid (fun h : kOk ks ks.length => h j hlt hlt)
      have hr' := Lib.hid hr
      clear hr
      by_cases h0 : 0 < j
      · have d1 := (hbw.cell (p := ⟨b, o + (j - 1), none⟩) hB).trans (hks (j - 1) (by omega))
        generalize ks[j - 1] = g at *
        generalize ks[j] = g' at *
        clear hks
        have hw1 : wrap64 ((j : Int) - 1) = ((j - 1 : Nat) : Int) := by unfold wrap64; omega
        have hw2 : ((j - 1 : Nat) : Int) < (ks.length : Int) := by omega
        go_wp2_with (go_at_call 96; refine (hc2.out _ (by go_grown)).mono ?_; rintro e w1 ⟨⟨p, rfl⟩, hb1⟩; obtain ⟨hc1, hf1⟩ := bcell hb1)
        · rename_i hr0 hlz
          have hl' : Op.bytesLess g.toList g'.toList = false := by simpa using hlz
          have hbf : bb = false := by
            cases bb with
            | false => rfl
            | true => have := (hno.out (hbb'.out.1 rfl).1).2 h0; rw [hl'] at this; cases this
          subst hbf
          exact bodyPost_ret (v := .bool false) (by simp [results, Tryd.results90, go_sem]) rfl ⟨rfl, Below.after hbw hb1 z2⟩
        · rename_i hr0 hlz
          have hl' : Op.bytesLess g.toList g'.toList = true := by simpa using hlz
          exact ⟨⟨j + 1, by simp, by omega, hst.out (if_zero hr'.out hr0) (fun _ => hl'), kb.kept hb1, Below.after hbw hb1 z2⟩, by simp [intOf]; omega⟩
        · rename_i hr0
          have hv := if_other hr'.out hr0
          have hbf : bb = false := by
            cases bb with
            | false => rfl
            | true => have := (hno.out (hbb'.out.1 rfl).1).1; rw [hv] at this; cases this
          subst hbf
          exact bodyPost_ret (v := .bool false) (by simp [results, Tryd.results90, go_sem]) rfl ⟨rfl, Below.after hbw hb1 z2⟩
      · obtain rfl : j = 0 := by omega
        simp only [Nat.add_zero] at d0
        generalize ks[0] = g' at *
        clear hks
        go_wp2_with (go_at_call 96; refine (hc2.out _ (by go_grown)).mono ?_; rintro e w1 ⟨⟨p, rfl⟩, hb1⟩; obtain ⟨hc1, hf1⟩ := bcell hb1)
        · rename_i hr0
          exact ⟨⟨0 + 1, by simp, by omega, hst.out (if_zero hr'.out hr0) (fun h => by omega), kb.kept hb1, Below.after hbw hb1 z2⟩, by simp [intOf]; omega⟩
        · rename_i hr0
          have hv := if_other hr'.out hr0
          have hbf : bb = false := by
            cases bb with
            | false => rfl
            | true => have := (hno.out (hbb'.out.1 rfl).1).1; rw [hv] at this; cases this
          subst hbf
          exact bodyPost_ret (v := .bool false) (by simp [results, Tryd.results90, go_sem]) rfl ⟨rfl, Below.after hbw hb1 z2⟩
    · obtain rfl : j = ks.length := by omega
      go_wp2_with fail
      · rename_i h1 h2
        have hs : s = ⟨#[]⟩ := str_nil h2
        have hbf : bb = decide (np = ks.length) := by
          rw [Bool.eq_iff_iff, hbb'.out, decide_eq_true_eq]
          exact ⟨fun h => h.2.2.2, fun h => ⟨hok'.out, h1, hs, h⟩⟩
        subst hbf
        refine bodyPost_ret (v := .bool (decide (np = ks.length))) ?_ rfl ⟨rfl, hbw⟩
        simp [results, Tryd.results90, go_sem, nat_beq2]
      · rename_i h1 h2
        have hbf : bb = false := by
          cases bb with
          | false => rfl
          | true => have := (hbb'.out.1 rfl).2.2.1; subst this; exact absurd nil_bytes h2
        subst hbf
        exact bodyPost_ret (v := .bool false) (by simp [results, Tryd.results90, go_sem]) rfl ⟨rfl, hbw⟩
      · rename_i h1
        have hbf : bb = false := by
          cases bb with
          | false => rfl
          | true => exact absurd (hbb'.out.1 rfl).2.1 h1
        subst hbf
        exact bodyPost_ret (v := .bool false) (by simp [results, Tryd.results90, go_sem]) rfl ⟨rfl, hbw⟩

end Go.Proofs.YtmleipmilmeclaaDoor
