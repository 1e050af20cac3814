/- Walks: the reference's Points and Valid. -/
import Derived.Test.YtmleipmilmeclaaDoorXVc
import Derived.Deep.AppendLies
import Derived.Test.YtmleipmilmeclaaDoorXOa
namespace Go.Proofs.YtmleipmilmeclaaDoor
open Go.RowKit
attribute [local go_sem ↓] Go.wp_at_zero Go.wp_at_succ

theorem info3 : (Tryd.prog.info? 3).map (fun i => (i.zero, i.size, i.bytes)) = some (some (.int .i64 0), 1, 8) := by kernel_rfl

set_option maxRecDepth 100000 in
set_option maxHeartbeats 1000000 in
theorem points_any (b o cap : Nat) (L : List Int) (n : Nat) (hn : L.length = n) (hn2 : n < 1099511627776) (hcap : n ≤ cap) (hL : ∀ y ∈ L, Byte y) (w : World) (hb : Bs w b o L) (hlb : b < w.heap.size) (r : Bool) (hr : vld L = r) :
    Calls Tryd.prog 38 #[.slice (some ⟨b, o, none⟩) n cap] w fun e w' => (∃ v p, e = .returned (.tuple #[v, p, .bool r])) ∧ Below w.heap.size w w' := by
  have hr' := Lib.hid hr
  clear hr
  go_enter Tryd.func38, Tryd.ntmps38
  go_wp2
  go_loopw [5, 6] (fun v a wr => ∃ (k j : Nat) (xs : List Value), a = .int .i64 (k : Int) ∧ k ≤ n ∧ j ≤ k ∧ wr.ownsRow w.heap.size 3 1 v j xs ∧ vld L = vld (L.drop k) ∧ Below w.heap.size w wr) (fun _ a _ => n - (intOf a).toNat)
  case atStart => exact ⟨0, 0, [], rfl, by omega, by omega, World.ownsRow_nil _ _ _ _, rfl, Below.refl _ _⟩
  case round =>
    obtain ⟨k, j, xs, rfl, hk, hj, own, hv, hbw⟩ := hrel
    have z := hbw.size
    have hv' := Lib.hid hv
    clear hv
    by_cases hlt : k < n
    · obtain ⟨x, L', hd⟩ : ∃ x L', L.drop k = x :: L' := by
        cases h : L.drop k with
        | nil => have := congrArg List.length h; simp at this; omega
        | cons x L' => exact ⟨x, L', rfl⟩
      have hby : ∀ y ∈ L.drop k, Byte y := fun y hy => hL y (List.mem_of_mem_drop hy)
      have hbg := begin_any b (o + k) (cap - k) (L.drop k) (n - k) (by simp [hn]) (by omega) (by omega) hby wr ((hb.below hbw hlb).drop k) (by omega) _ rfl
      rw [begin_next _ hby] at hbg
      have hc := vld_cons x L'
      rw [← hd] at hc
      have hle := nextP_le (L.drop k)
      rw [List.length_drop, hn] at hle
      have hbg' := Lib.hid hbg
      rw [List.drop_drop] at hc
      generalize nextP (L.drop k) = pm at *
      obtain ⟨q, m⟩ := pm
      simp only at hc hle
      have hc' := Lib.hid hc
      have ho := Lib.hid own
      have own_ge : ∀ g, u5.ownBlock = some g → w.heap.size ≤ g := fun g h => (own_lt own h).1
      have own_ge' := Lib.hid own_ge
      obtain ⟨i0, hi, hz0, hz1, hz2⟩ := info_parts info3
      clear hc hbg hd hby hL hb own own_ge
      go_wp2_with (first
        | (go_at_call 61; refine hbg'.out.mono ?_; rintro e w1 ⟨rfl, hb1⟩; have z1 := hb1.size)
        | (at_builtin; refine wpList_append_lies _ rfl (.tmp 23) (.tmp 25) 45 rfl w.heap.size 3 i0 _ 1 8 Tryd.underlying45 hi hz0 hz1 hz2 rfl (by decide) _ j _ rfl ((own_after ho.out hb1).alloc _) ⟨w1.heap.size, 0, none⟩ 1 1 [.int .i64 q] rfl rfl (World.news_of_block (Blk.new _ _ _)) (by simp [Value.oneCell']) (by decide) (by unfold maxLen; omega) (by omega) (by go_size) (w1.heap.size + 1) (by simp) ?_; intro g1 cap1 wa hown1 hgrow1 hat1 hlt1))
      · rename_i hz
        have hz' : m = 0 := by simpa using hz
        have e := hv'.out.trans hc'.out
        simp only [hz', ne_eq, not_true_eq_false, decide_false, Bool.false_and] at e
        have e2 := hr'.out.symm.trans e
        subst e2
        exact bodyPost_ret (v := .tuple #[.slice none 0 0, .int .i64 k, .bool false]) (by simp [results, Tryd.results38, go_sem]) rfl ⟨⟨_, _, rfl⟩, Below.after hbw hb1 z⟩
      · rename_i hz
        have hz' : m ≠ 0 := by simpa using hz
        have e := hv'.out.trans hc'.out
        simp only [ne_eq, hz', not_false_eq_true, decide_true, Bool.true_and] at e
        refine ⟨⟨k + m.toNat, j + 1, _, by congr 1; omega, by omega, by omega, hown1, e, ?_⟩, by simp [intOf]; omega⟩
        exact Below.grown ((Below.after hbw hb1 z).alloc (by omega) _) hgrow1 (by go_size) own_ge'.out
    · have hkn : k = n := by omega
      subst hkn
      have e := hv'.out
      rw [List.drop_of_length_le (by omega)] at e
      have e2 : vld L = true := e
      have e3 := hr'.out.symm.trans e2
      subst e3
      go_wp2
      exact bodyPost_ret (v := .tuple #[u5, .int .i64 0, .bool true]) (by simp [results, Tryd.results38, go_sem]) rfl ⟨⟨_, _, rfl⟩, hbw⟩

set_option maxHeartbeats 1000000 in
theorem valid_any (s : ByteArray) (hs : s.size < 1099511627776) (w : World) :
    Calls Tryd.prog 14 #[.string s] w fun e w' => e = .returned (.bool (vld (bytesL s))) ∧ Below w.heap.size w w' := by
  obtain ⟨cap, W, hcv, hcap, hbW, hlW, hBs⟩ := conv_any s w
  have hp := Lib.hid (points_any w.heap.size 0 cap (bytesL s) s.size (bytesL_len s) hs hcap (bytesL_byte s) W hBs hlW _ rfl)
  generalize vld (bytesL s) = r at *
  go_enter Tryd.func14, Tryd.ntmps14
  go_wp2_with (go_at_call 38; refine hp.out.mono ?_; rintro e w1 ⟨⟨v, p, rfl⟩, hb1⟩)
  go_ret
  exact ⟨rfl, hbW.trans (hb1.mono (by omega))⟩

end Go.Proofs.YtmleipmilmeclaaDoor
