/- Walks: utf.Check. -/
import Derived.Test.YtmleipmilmeclaaDoorUc
import Derived.Lib.ConvBytes
namespace Go.Proofs.YtmleipmilmeclaaDoor
open Go.RowKit
attribute [local go_sem ↓] Go.wp_at_zero Go.wp_at_succ
attribute [local go_sem] BigFrame.eval_global

/-- A string's bytes. -/
def bytesL (s : ByteArray) : List Int := s.data.toList.map fun u => (u.toNat : Int)
theorem bytesL_len (s : ByteArray) : (bytesL s).length = s.size := by
  rw [bytesL, List.length_map]; rfl
theorem bytesL_byte (s : ByteArray) : ∀ y ∈ bytesL s, Byte y := fun y hy => by
  obtain ⟨u, _, rfl⟩ := List.mem_map.1 hy
  have := u.toNat_lt
  exact ⟨by omega, by omega⟩

/-- '[]byte(s)'. -/
theorem conv_any (s : ByteArray) (w : World) : ∃ cap W, (convert 9 25 (.string s)).run Tryd.prog w = .ok (.slice (some ⟨w.heap.size, 0, none⟩) s.size cap) W ∧ s.size ≤ cap ∧ Below w.heap.size w W ∧ w.heap.size < W.heap.size ∧ Bs W w.heap.size 0 (bytesL s) := by
  refine ⟨_, _, Lib.run_convert_string_bytes w 9 25 5 s Tryd.underlying9 Tryd.underlying25 Tryd.underlying5, grownCap_ge _ _ _ _, ?_, ?_, ?_⟩
  · exact ⟨rfl, rfl, rfl, by rw [Lib.bytesWorld_size]; omega, fun k hk => Lib.bytesWorld_at_old w 5 s k hk⟩
  · rw [Lib.bytesWorld_size]; omega
  · intro k hk
    rw [bytesL_len] at hk
    rw [Nat.zero_add, Lib.bytesWorld_cell w 5 s k hk]
    have hk2 : k < s.data.toList.length := hk
    simp only [bytesL, List.getElem_map, List.getD_eq_getElem?_getD, List.getElem?_eq_getElem hk2, Option.getD_some]

theorem inc_any (q p : Int) (w : World) :
    Calls Tryd.prog 101 #[.int .i64 q, .int .i64 p] w fun e w' => (∃ a, e = .returned (.int .i64 a)) ∧ Below w.heap.size w w' := by
  go_enter Tryd.func101, Tryd.ntmps101
  go_wp2
  go_ret
  exact ⟨⟨_, rfl⟩, by go_grown⟩

set_option maxRecDepth 100000 in
set_option maxHeartbeats 4000000 in
theorem through_any (s : ByteArray) (hs : s.size < 4611686018427387904) (r : Int) (hr : (if vld (bytesL s) then 0 else 110) = r) (w : World) (hg : Gl w) :
    Calls Tryd.prog 100 #[.string s, .int .i64 0, .func (.func 101) #[] #[]] w fun e w' => (∃ a p, e = .returned (.tuple #[.int .i64 a, .int .i64 p, .int .i64 r])) ∧ Below w.heap.size w w' := by
  obtain ⟨cap, W, hcv, hcap, hbW, hlW, hBs⟩ := conv_any s w
  have hgW := hg.below hbW hg.lt hbW.size
  have hlen := bytesL_len s
  have hby := bytesL_byte s
  generalize bytesL s = L at *
  generalize s.size = n at *
  have hcap' : (n : Int) ≤ cap := by omega
  have hr' := Lib.hid hr
  clear hg hr
  go_enter Tryd.func100, Tryd.ntmps100
  go_wp2_with fail
  go_loopw [10, 1] (fun i a wr => ∃ (k : Nat) (q : Int), i = .int .i64 (k : Int) ∧ a = .int .i64 q ∧ k ≤ n ∧ vld L = vld (L.drop k) ∧ Below W.heap.size W wr) (fun i _ _ => n - (intOf i).toNat)
  case atStart => exact ⟨0, 0, rfl, rfl, by omega, rfl, Below.refl _ _⟩
  case round =>
    obtain ⟨k, q, rfl, rfl, hk, hv, hbw⟩ := hrel
    have z2 := hbw.size
    have hv' := Lib.hid hv
    clear hv
    by_cases hlt : k < n
    · obtain ⟨x, L', hd⟩ : ∃ x L', L.drop k = x :: L' := by
        cases h : L.drop k with
        | nil => have := congrArg List.length h; simp at this; omega
        | cons x L' => exact ⟨x, L', rfl⟩
      have hl' : L'.length + 1 = n - k := by have := congrArg List.length hd; simp at this; omega
      have hnx := next_any w.heap.size (0 + k) (cap - k) x L' (by omega) (fun y hy => hby y (List.mem_of_mem_drop (hd ▸ hy))) wr (hd ▸ (hBs.below hbw hlW).drop k) (by omega) (hgW.below hbw hgW.lt hbw.size)
      rw [hl', ← hd, Nat.zero_add] at hnx
      have hc := vld_cons x L'
      rw [← hd] at hc
      have hle := nextP_le (L.drop k)
      rw [List.length_drop] at hle
      have hnx' := Lib.hid hnx
      rw [List.drop_drop] at hc
      generalize nextP (L.drop k) = pm at *
      obtain ⟨p, m⟩ := pm
      simp only at hc hle
      have hc' := Lib.hid hc
      clear hc hnx hd hby hBs hgW
      go_wp2_with (first
        | (go_at_call 93; refine hnx'.out.mono ?_; rintro e w1 ⟨rfl, hb1⟩)
        | (go_at_call 101; refine (inc_any _ _ _).mono ?_; rintro e w2 ⟨⟨a, rfl⟩, hb2⟩))
      · rename_i hz
        have hz' : m = 0 := by simpa using hz
        have e := hv'.out.trans hc'.out
        simp only [hz', ne_eq, not_true_eq_false, decide_false, Bool.false_and] at e
        have e2 := hr'.out
        rw [e] at e2
        have e3 : r = 110 := e2.symm
        subst e3
        refine bodyPost_ret (v := .tuple #[.int .i64 0, .int .i64 k, .int .i64 110]) (by simp [results, Tryd.results100, go_sem]) rfl ⟨⟨_, _, rfl⟩, ?_⟩
        exact Below.after (hbW.trans (hbw.mono (by omega))) hb1 (by omega)
      · rename_i hz
        have hz' : m ≠ 0 := by simpa using hz
        have e := hv'.out.trans hc'.out
        simp only [ne_eq, hz', not_false_eq_true, decide_true, Bool.true_and] at e
        have hv2 := Lib.hid e
        clear e
        have z3 := hb1.size
        refine ⟨⟨k + m.toNat, a, by congr 1; omega, rfl, by omega, hv2.out, Below.after (Below.after hbw hb1 (by omega)) hb2 (by omega)⟩, by simp [intOf]; omega⟩
    · have hkn : k = n := by omega
      subst hkn
      have e := hv'.out
      rw [List.drop_of_length_le (by omega)] at e
      have e2 : vld L = true := e
      have e3 := hr'.out
      rw [e2] at e3
      have e4 : r = 0 := e3.symm
      clear e e2 e3
      subst e4
      go_wp2_with fail
      refine bodyPost_ret (v := .tuple #[.int .i64 q, .int .i64 0, .int .i64 0]) (by simp [results, Tryd.results100, go_sem]) rfl ⟨⟨_, _, rfl⟩, ?_⟩
      exact hbW.trans (hbw.mono (by omega))

end Go.Proofs.YtmleipmilmeclaaDoor
