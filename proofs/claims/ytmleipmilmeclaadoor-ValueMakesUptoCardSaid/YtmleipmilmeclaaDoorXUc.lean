/- Walks: is a string a text? -/
import Derived.Test.YtmleipmilmeclaaDoorXUb
import Derived.Lib.ConvBytes
namespace Go.Proofs.YtmleipmilmeclaaDoor
open Go.RowKit
attribute [local go_sem ↓] Go.wp_at_zero Go.wp_at_succ
attribute [local go_sem] BigFrame.eval_global

theorem Bs.tail {w : World} {b o : Nat} {x : Int} {L : List Int} (h : Bs w b o (x :: L)) : Bs w b (o + 1) L := fun k hk => by
  have := h (k + 1) (by simpa using hk)
  rw [show o + (k + 1) = o + 1 + k by omega] at this
  simpa using this
theorem Bs.take {w : World} {b o : Nat} {L : List Int} (h : Bs w b o L) (n : Nat) : Bs w b o (L.take n) := fun k hk => by
  have := h k (by simp at hk; omega)
  simpa using this
theorem Bs.drop {w : World} {b o : Nat} {L : List Int} (h : Bs w b o L) (n : Nat) : Bs w b (o + n) (L.drop n) := fun k hk => by
  have := h (n + k) (by simp at hk; omega)
  rw [show o + (n + k) = o + n + k by omega] at this
  simpa using this
theorem Bs.below {B : Nat} {w w' : World} {b o : Nat} {L : List Int} (h : Bs w b o L) (hb : Below B w w') (hB : b < B) : Bs w' b o L := fun k hk => (hb.cell (p := ⟨b, o + k, none⟩) hB).trans (h k hk)

theorem nextP_short {x : Int} {L : List Int} (h : ldN x > L.length + 1) : nextP (x :: L) = (0, 0) := by
  simp only [nextP]; rw [if_pos (Or.inr h)]
theorem nextP_none {x : Int} {L : List Int} (h : ldN x = 0) : nextP (x :: L) = (0, 0) := by
  simp only [nextP]; rw [if_pos (Or.inl h)]
theorem nextP_fit {x : Int} {L : List Int} (h0 : ldN x ≠ 0) (h : ldN x ≤ L.length + 1) : nextP (x :: L) = finP (ldN x) (contP (maskB x) (L.take (ldN x - 1).toNat)) := by
  simp only [nextP]; rw [if_neg (by omega)]

theorem next_any (b o cap : Nat) (x : Int) (L : List Int) (hcap : L.length + 1 ≤ cap) (hL : ∀ y ∈ x :: L, Byte y) (w : World) (hb : Bs w b o (x :: L)) (hB : b < w.heap.size) (hg : Gl w) :
    Calls Tryd.prog 93 #[.slice (some ⟨b, o, none⟩) (L.length + 1) cap] w fun e w' => e = .returned (.tuple #[.int .i64 (nextP (x :: L)).1, .int .i64 (nextP (x :: L)).2]) ∧ Below w.heap.size w w' := by
  have hx : Byte x := hL x (by simp)
  have c0 := hb 0 (by simp)
  simp only [List.getElem_cons_zero, Nat.add_zero] at c0
  have hT : ∀ n, ∀ y ∈ L.take n, Byte y := fun n y hy => hL y (List.mem_cons_of_mem _ (List.mem_of_mem_take hy))
  rcases ld_cases x with h | h | h | h | h
  · rw [nextP_none h.1]
    exact next0 x hx h b o _ cap (by omega) w c0 hg
  · rw [nextP_fit (by omega) (by omega), h.1]
    exact fit1 x hx ⟨h.1, h.2.1, h.2.2.1⟩ b o _ cap [] rfl (by omega) hcap w c0 (by simp) (fun k hk => by simp at hk) hB hg _ (by simp [maskB, h.2.2.2])
  · by_cases hs : L.length + 1 < 2
    · rw [nextP_short (by omega)]
      exact short2 x hx ⟨h.1, h.2.1, h.2.2.1⟩ b o _ cap (by omega) hs w c0 hg
    · rw [nextP_fit (by omega) (by omega), h.1]
      have hm : maskB x = x % 32 := by unfold maskB; rw [if_neg (by omega), if_pos (by omega)]
      exact fit2 x hx ⟨h.1, h.2.1, h.2.2.1⟩ b o _ cap (L.take 1) (by simp; omega) (by omega) hcap w c0 (hT 1) (hb.tail.take 1) hB hg _ (by rw [hm]; rfl)
  · by_cases hs : L.length + 1 < 3
    · rw [nextP_short (by omega)]
      exact short3 x hx ⟨h.1, h.2.1, h.2.2.1⟩ b o _ cap (by omega) hs w c0 hg
    · rw [nextP_fit (by omega) (by omega), h.1]
      have hm : maskB x = x % 16 := by unfold maskB; rw [if_neg (by omega), if_neg (by omega), if_pos (by omega)]
      exact fit3 x hx ⟨h.1, h.2.1, h.2.2.1⟩ b o _ cap (L.take 2) (by simp; omega) (by omega) hcap w c0 (hT 2) (hb.tail.take 2) hB hg _ (by rw [hm]; rfl)
  · by_cases hs : L.length + 1 < 4
    · rw [nextP_short (by omega)]
      exact short4 x hx ⟨h.1, h.2.1, h.2.2.1⟩ b o _ cap (by omega) hs w c0 hg
    · rw [nextP_fit (by omega) (by omega), h.1]
      have hm : maskB x = x % 8 := by unfold maskB; rw [if_neg (by omega), if_neg (by omega), if_neg (by omega), if_pos (by omega)]
      exact fit4 x hx ⟨h.1, h.2.1, h.2.2.1⟩ b o _ cap (L.take 3) (by simp; omega) (by omega) hcap w c0 (hT 3) (hb.tail.take 3) hB hg _ (by rw [hm]; rfl)

/-- A code point's size is at least one, and at most what there is. -/
theorem nextP_le (L : List Int) : (nextP L).2 = 0 ∨ 1 ≤ (nextP L).2 ∧ (nextP L).2 ≤ L.length ∧ (nextP L).2 ≤ 4 := by
  match L with
  | [] => exact .inl rfl
  | x :: L =>
    by_cases h0 : ldN x = 0
    · rw [nextP_none h0]; exact .inl rfl
    · by_cases h1 : ldN x > L.length + 1
      · rw [nextP_short h1]; exact .inl rfl
      · rw [nextP_fit h0 (by omega)]
        have hl : 1 ≤ ldN x ∧ ldN x ≤ 4 := by unfold ldN at *; (repeat' split) <;> first | omega | (simp_all; done)
        cases contP (maskB x) (L.take (ldN x - 1).toNat) with
        | none => exact .inl rfl
        | some p =>
          simp only [finP]
          split
          · right; simp only [List.length_cons]; omega
          · exact .inl rfl

/-- May bytes be a text? -/
def vldF : Nat → List Int → Bool
  | _, [] => true
  | 0, _ :: _ => false
  | f + 1, x :: L => decide ((nextP (x :: L)).2 ≠ 0) && vldF f ((x :: L).drop (nextP (x :: L)).2.toNat)
def vld (L : List Int) : Bool := vldF L.length L
theorem vldF_fuel : ∀ (f g : Nat) (L : List Int), L.length ≤ f → L.length ≤ g → vldF f L = vldF g L
  | f, g, [], _, _ => by cases f <;> cases g <;> rfl
  | 0, _, x :: L, h, _ => by simp at h
  | _, 0, x :: L, _, h => by simp at h
  | f + 1, g + 1, x :: L, hf, hg => by
    simp only [vldF]
    rcases nextP_le (x :: L) with h | ⟨h1, h2, _⟩
    · simp [h]
    · rw [vldF_fuel f g _ (by simp only [List.length_drop, List.length_cons] at *; omega) (by simp only [List.length_drop, List.length_cons] at *; omega)]
theorem vld_cons (x : Int) (L : List Int) : vld (x :: L) = (decide ((nextP (x :: L)).2 ≠ 0) && vld ((x :: L).drop (nextP (x :: L)).2.toNat)) := by
  unfold vld
  show vldF (L.length + 1) (x :: L) = _
  simp only [vldF]
  rcases nextP_le (x :: L) with h | ⟨h1, h2, _⟩
  · simp [h]
  · rw [vldF_fuel L.length _ _ (by simp only [List.length_drop, List.length_cons] at *; omega) (Nat.le_refl _)]

end Go.Proofs.YtmleipmilmeclaaDoor

/- Walks: utf.Check. -/
namespace Go.Proofs.YtmleipmilmeclaaDoor
open Go.RowKit
attribute [local go_sem ↓] Go.wp_at_zero Go.wp_at_succ
attribute [local go_sem] BigFrame.eval_global

/-- A string's bytes. -/
def bytesL (s : ByteArray) : List Int := s.data.toList.map fun u => (u.toNat : Int)
theorem bytesL_len (s : ByteArray) : (bytesL s).length = s.size := by
  rw [bytesL, List.length_map]; rfl
theorem bytesL_byte (s : ByteArray) : ∀ y ∈ bytesL s, Byte y := fun y hy => by
  obtain ⟨u, _, rfl⟩ := List.mem_map.1 hy
  have := u.toNat_lt
  exact ⟨by omega, by omega⟩

/-- '[]byte(s)'. -/
theorem conv_any (s : ByteArray) (w : World) : ∃ cap W, (convert 9 25 (.string s)).run Tryd.prog w = .ok (.slice (some ⟨w.heap.size, 0, none⟩) s.size cap) W ∧ s.size ≤ cap ∧ Below w.heap.size w W ∧ w.heap.size < W.heap.size ∧ Bs W w.heap.size 0 (bytesL s) := by
  refine ⟨_, _, Lib.run_convert_string_bytes w 9 25 5 s Tryd.underlying9 Tryd.underlying25 Tryd.underlying5, grownCap_ge _ _ _ _, ?_, ?_, ?_⟩
  · exact ⟨rfl, rfl, rfl, by rw [Lib.bytesWorld_size]; omega, fun k hk => Lib.bytesWorld_at_old w 5 s k hk⟩
  · rw [Lib.bytesWorld_size]; omega
  · intro k hk
    rw [bytesL_len] at hk
    rw [Nat.zero_add, Lib.bytesWorld_cell w 5 s k hk]
    have hk2 : k < s.data.toList.length := hk
    simp only [bytesL, List.getElem_map, List.getD_eq_getElem?_getD, List.getElem?_eq_getElem hk2, Option.getD_some]

theorem inc_any (q p : Int) (w : World) :
    Calls Tryd.prog 101 #[.int .i64 q, .int .i64 p] w fun e w' => (∃ a, e = .returned (.int .i64 a)) ∧ Below w.heap.size w w' := by
  go_enter Tryd.func101, Tryd.ntmps101
  go_wp2
  go_ret
  exact ⟨⟨_, rfl⟩, by go_grown⟩

set_option maxRecDepth 100000 in
set_option maxHeartbeats 4000000 in
theorem through_any (s : ByteArray) (hs : s.size < 4611686018427387904) (r : Int) (hr : (if vld (bytesL s) then 0 else 110) = r) (w : World) (hg : Gl w) :
    Calls Tryd.prog 100 #[.string s, .int .i64 0, .func (.func 101) #[] #[]] w fun e w' => (∃ a p, e = .returned (.tuple #[.int .i64 a, .int .i64 p, .int .i64 r])) ∧ Below w.heap.size w w' := by
  obtain ⟨cap, W, hcv, hcap, hbW, hlW, hBs⟩ := conv_any s w
  have hgW := hg.below hbW hg.lt hbW.size
  have hlen := bytesL_len s
  have hby := bytesL_byte s
  generalize bytesL s = L at *
  generalize s.size = n at *
  have hcap' : (n : Int) ≤ cap := by omega
  have hr' := Lib.hid hr
  clear hg hr
  go_enter Tryd.func100, Tryd.ntmps100
  go_wp2_with fail
  go_loopw [10, 1] (fun i a wr => ∃ (k : Nat) (q : Int), i = .int .i64 (k : Int) ∧ a = .int .i64 q ∧ k ≤ n ∧ vld L = vld (L.drop k) ∧ Below W.heap.size W wr) (fun i _ _ => n - (intOf i).toNat)
  case atStart => exact ⟨0, 0, rfl, rfl, by omega, rfl, Below.refl _ _⟩
  case round =>
    obtain ⟨k, q, rfl, rfl, hk, hv, hbw⟩ := hrel
    have z2 := hbw.size
    have hv' := Lib.hid hv
    clear hv
    by_cases hlt : k < n
    · obtain ⟨x, L', hd⟩ : ∃ x L', L.drop k = x :: L' := by
        cases h : L.drop k with
        | nil => have := congrArg List.length h; simp at this; omega
        | cons x L' => exact ⟨x, L', rfl⟩
      have hl' : L'.length + 1 = n - k := by have := congrArg List.length hd; simp at this; omega
      have hnx := next_any w.heap.size (0 + k) (cap - k) x L' (by omega) (fun y hy => hby y (List.mem_of_mem_drop (hd ▸ hy))) wr (hd ▸ (hBs.below hbw hlW).drop k) (by omega) (hgW.below hbw hgW.lt hbw.size)
      rw [hl', ← hd, Nat.zero_add] at hnx
      have hc := vld_cons x L'
      rw [← hd] at hc
      have hle := nextP_le (L.drop k)
      rw [List.length_drop] at hle
      have hnx' := Lib.hid hnx
      rw [List.drop_drop] at hc
      generalize nextP (L.drop k) = pm at *
      obtain ⟨p, m⟩ := pm
      simp only at hc hle
      have hc' := Lib.hid hc
      clear hc hnx hd hby hBs hgW
      go_wp2_with (first
        | (go_at_call 93; refine hnx'.out.mono ?_; rintro e w1 ⟨rfl, hb1⟩)
        | (go_at_call 101; refine (inc_any _ _ _).mono ?_; rintro e w2 ⟨⟨a, rfl⟩, hb2⟩))
      · rename_i hz
        have hz' : m = 0 := by simpa using hz
        have e := hv'.out.trans hc'.out
        simp only [hz', ne_eq, not_true_eq_false, decide_false, Bool.false_and] at e
        have e2 := hr'.out
        rw [e] at e2
        have e3 : r = 110 := e2.symm
        subst e3
        refine bodyPost_ret (v := .tuple #[.int .i64 0, .int .i64 k, .int .i64 110]) (by simp [results, Tryd.results100, go_sem]) rfl ⟨⟨_, _, rfl⟩, ?_⟩
        exact Below.after (hbW.trans (hbw.mono (by omega))) hb1 (by omega)
      · rename_i hz
        have hz' : m ≠ 0 := by simpa using hz
        have e := hv'.out.trans hc'.out
        simp only [ne_eq, hz', not_false_eq_true, decide_true, Bool.true_and] at e
        have hv2 := Lib.hid e
        clear e
        have z3 := hb1.size
        refine ⟨⟨k + m.toNat, a, by congr 1; omega, rfl, by omega, hv2.out, Below.after (Below.after hbw hb1 (by omega)) hb2 (by omega)⟩, by simp [intOf]; omega⟩
    · have hkn : k = n := by omega
      subst hkn
      have e := hv'.out
      rw [List.drop_of_length_le (by omega)] at e
      have e2 : vld L = true := e
      have e3 := hr'.out
      rw [e2] at e3
      have e4 : r = 0 := e3.symm
      clear e e2 e3
      subst e4
      go_wp2_with fail
      refine bodyPost_ret (v := .tuple #[.int .i64 q, .int .i64 0, .int .i64 0]) (by simp [results, Tryd.results100, go_sem]) rfl ⟨⟨_, _, rfl⟩, ?_⟩
      exact hbW.trans (hbw.mono (by omega))

end Go.Proofs.YtmleipmilmeclaaDoor
