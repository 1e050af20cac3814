/- Walk: the law of the constructors. -/
import Derived.Test.YtmleipmilmeclaaDoorXTq
import Derived.Test.YtmleipmilmeclaaDoorXTo
import Derived.Test.YtmleipmilmeclaaDoorXTk
namespace Go.Proofs.YtmleipmilmeclaaDoor
open Go.RowKit
attribute [local go_sem ↓] Go.wp_at_zero Go.wp_at_succ
attribute [local go_sem] slice_hi48

theorem own_lies {w : World} {base : Nat} {e : TypeId} {size : Nat} {q : Option Addr} {n c : Nat} {xs : List Value} (h : w.ownsRow base e size (.slice q n c) n xs) : Lies w size q n xs := by
  have := own_lies_take h (Nat.le_refl n)
  rwa [List.take_of_length_le (by rw [h.1]; exact Nat.le_refl _)] at this

theorem own_nonnil {w : World} {base : Nat} {e : TypeId} {size : Nat} {v v0 : Value} {n : Nat} {xs : List Value} (h : w.ownsRow base e size v n xs) (h0 : v0 ≠ .slice none 0 0) (hne : 0 < n ∨ v = v0) : ∃ g cap, v = .slice (some ⟨g, 0, none⟩) n cap ∧ base ≤ g ∧ g < w.heap.size ∧ n ≤ cap := by
  refine own_at h ?_
  rintro rfl
  rcases hne with h1 | h1
  · rcases h.2 with ⟨_, h2⟩ | ⟨g, cap, cur, h2, _⟩
    · omega
    · cases h2
  · exact h0 h1.symm

theorem list_form {r : Bool} {h : Nat} {tL : T} {e : Ending} {w : World} (ho : (r = true ∧ ∃ v : V5, e = .returned (.tuple #[v.v, .int .i64 0]) ∧ Lay w h v tL) ∨ (r = false ∧ e = .returned (.tuple #[zero5.v, .int .i64 140]))) :
    ∃ (v16 : V5) (er : Int), e = .returned (.tuple #[v16.v, .int .i64 er]) ∧ ((r = true ∧ er = 0 ∧ Lay w h v16 tL) ∨ (r = false ∧ er = 140 ∧ v16 = zero5)) := by
  rcases ho with ⟨h1, v, h2, h3⟩ | ⟨h1, h2⟩
  · exact ⟨v, 0, h2, .inl ⟨h1, rfl, h3⟩⟩
  · exact ⟨zero5, 140, h2, .inr ⟨h1, rfl, rfl⟩⟩

structure KRel (W : World) (B g gk : Nat) (ds : List PV) (j : Nat) (pv : Value) (wr : World) : Prop where
  kb : Blk wr gk #[.int .i64 5, .int .i64 0, .string ⟨#[]⟩, pv, .slice none 0 0] 39
  ow : wr.ownsRow B 39 5 pv j (valC (ds.take j))
  ol : ∀ i (hi : i < ds.length) c, c < 6 → wr.cell? ⟨g, i * 6 + c, none⟩ = (encP ds[i])[c]?
  lw : Below W.heap.size W wr
  sz : B ≤ wr.heap.size

theorem KRel.next {W wr wq wa : World} {B g gk j : Nat} {ds : List PV} {pv pv' : Value} {x : PV} {cs1 cs2 : Array Value} {T1 T2 : TypeId} (h : KRel W B g gk ds j pv wr) (hB : gk < B) (hg : g < B) (hne : g ≠ gk) (hW : W.heap.size ≤ gk) (hj : j < ds.length) (hx : ds[j]? = some x)
    (hq : wr.alloc (.cells cs1 T1) = wq) (hown : wa.ownsRow B 39 5 pv' (j + 1) (valC (ds.take j) ++ c5 x.v)) (hgrow : (wq.alloc (.cells cs2 T2)).grownBy wa pv.ownBlock) :
    KRel W B g gk ds (j + 1) pv' (wa.setCell ⟨gk, 3, none⟩ pv') := by
  subst hq
  have far : ∀ b, b < B → some b ≠ pv.ownBlock := fun b hb e => by
    have := (own_lt h.ow e.symm).1
    omega
  have hz := h.sz
  have e : ds[j] = x := by
    obtain ⟨_, h2⟩ := List.getElem?_eq_some_iff.1 hx
    exact h2
  have hgs := hgrow.size
  simp only [World.size_alloc] at hgs
  refine ⟨Blk.set (Blk.grown ((h.kb.alloc _).alloc _) hgrow (far gk hB)) 3 pv', ?_, fun i hi c hc => ?_, ?_, ?_⟩
  · rw [valC_snoc ds j hj, e]
    refine hown.kept (grownBy_set wa gk 3 pv') ?_
    rcases hv : pv'.ownBlock with _ | b
    · exact .inl rfl
    · exact .inr fun e => by
        have := (own_lt hown hv).1
        simp only [Option.some.injEq] at e
        omega
  · rw [← h.ol i hi c hc, World.cell?_setCell_other wa _ _ _ (fun e => hne (by simpa using congrArg Addr.block e.symm)), hgrow.cell_far ⟨g, i * 6 + c, none⟩ (by simp only [World.size_alloc]; omega) (far g hg), World.cell?_alloc_lt _ _ _ (by simp only [World.size_alloc]; omega), World.cell?_alloc_lt _ _ _ (by simp only; omega)]
  · refine Below.set (Below.grown (Below.alloc (Below.alloc h.lw h.lw.size _) (by have := h.lw.size; simp only [World.size_alloc]; omega) _) hgrow (by have := h.lw.size; simp only [World.size_alloc]; omega) (fun b hb => ?_)) hW _
    have := (own_lt h.ow hb).1
    omega
  · simp only [World.size_setCell]; omega

set_option maxRecDepth 100000 in
set_option maxHeartbeats 16000000 in
theorem makes_any (W : World) (hg : Gl W) (n : Int) (s : ByteArray) (hs : s.size < 1099511627776) (p : Option Addr) (m c : Nat) (hmc : m ≤ c) (ps : List PV) (hm : ps.length = m)
    (hkl : ∀ x ∈ ps, x.key.size < 1048576 ∧ ∃ t, Lay W 1048576 x.v t)
    (hP : 0 < m → ∃ b o, p = some ⟨b, o, none⟩ ∧ b < W.heap.size ∧ ∀ i (hi : i < ps.length), ∀ j, j < 6 → W.cell? ⟨b, o + (i * 6 + j), none⟩ = (encP ps[i])[j]?) :
    Calls Tryd.prog 5 #[.int .i64 n, .string s, .slice p m c] W fun e w' => e = .returned (.bool true) ∧ Below W.heap.size W w' := by
  obtain ⟨k, hk⟩ : ∃ k, k = min m 300 := ⟨_, rfl⟩
  have hk1 : k ≤ m := by omega
  have hk2 : k ≤ 300 := by omega
  have hkc : k ≤ c := by omega
  have hkz : min (m : Int) 300 = (k : Int) := by omega
  obtain ⟨tr, htr⟩ : ∃ tr : V5 → T, ∀ x ∈ ps, Lay W 1048576 x.v (tr x.v) := by
    classical
    refine ⟨fun v => if h : ∃ t, Lay W 1048576 v t then h.choose else .mk 0 0 ⟨#[]⟩ [] [], fun x hx => ?_⟩
    have h := (hkl x hx).2
    simp only [dif_pos h]
    exact h.choose_spec
  obtain ⟨hh, hhe⟩ : ∃ hh, hh = 1048576 := ⟨_, rfl⟩
  rw [← hhe] at htr
  have hhb : hh + 1 < 1099511627776 := by omega
  clear hhe
  obtain ⟨ds, hds⟩ : ∃ ds, ds = ps.take k := ⟨_, rfl⟩
  have hdn : ds.length = k := by rw [hds, List.length_take]; omega
  have hlay := Lib.hid (show ∀ w, Below W.heap.size W w → ∀ x ∈ ds, Lay w hh x.v (tr x.v) from fun w hb x hx => (htr x (List.mem_of_mem_take (hds ▸ hx))).below hb)
  have hkey := Lib.hid (show ∀ x ∈ ds, x.key.size < 1099511627776 from fun x hx => by
    have := (hkl x (List.mem_of_mem_take (hds ▸ hx))).1
    omega)
  have hlies := Lib.hid (show Lies W 6 p k (ds.flatMap encP) from hds ▸ lies_pairs hm hk1 hP)
  have hone := Lib.hid (show ∀ u ∈ ds.flatMap encP, u.oneCell' = true from fun u hu => by
    obtain ⟨x, _, hx⟩ := List.mem_flatMap.1 hu
    exact encP_one x u hx)
  have hwk := Lib.hid (wakes4_any W hg)
  have hg' := Lib.hid (fun (w : World) (hb : Below W.heap.size W w) => hg.below hb hg.lt hb.size)
  obtain ⟨i0, hin, hz0, hz1, hz2⟩ := info_parts info56
  obtain ⟨i5, hin5, hz50, hz51, hz52⟩ := info_parts info39
  clear hkl hP hds htr hm hk hg
  go_enter Tryd.func5, Tryd.ntmps5
  go_upto_region 3 with (go_at_call 12; refine hwk.out.mono ?_; rintro e w1 ⟨rfl, hb1⟩)
  go_cut [2] (fun v (wx : World) => ∃ g c', v = .slice (some ⟨g, 0, none⟩) k c' ∧ wx.ownsRow w1.heap.size 56 6 (.slice (some ⟨g, 0, none⟩) k c') k (ds.flatMap encP) ∧ Below w1.heap.size w1 wx)
  case first =>
    go_wp2_with (at_builtin; refine wpList_append_row rfl (.tmp 22) (.tmp 27) 48 rfl w1.heap.size 56 i0 _ 6 96 Tryd.underlying48 hin hz0 hz1 hz2 rfl (by decide) (.slice (some ⟨w1.heap.size, 0, none⟩) 0 0) 0 [] rfl (World.ownsRow_lit w1 #[] 0 (Nat.le_refl _) (by decide) rfl) p k c (ds.flatMap encP) rfl (hlies.out.below (Below.alloc hb1 hb1.size _)) hone.out (by unfold maxLen; omega) (by omega) (by go_size) ?_; intro v1 wa hown1 hgrow1 hne1; rw [Nat.zero_add, List.nil_append] at hown1; (obtain ⟨g, cap, rfl, hgb, hgl, hgc⟩ := own_nonnil hown1 (by simp) hne1); have La := Below.grown (Below.alloc (Below.refl w1.heap.size w1) (Nat.le_refl _) (.cells #[] 56)) hgrow1 (by simp) (fun b hb => by simp [Value.ownBlock] at hb; omega))
    go_meet
    exact ⟨g, cap, rfl, hown1, La⟩
  case rest =>
  obtain ⟨g, c', rfl, ownl, M3⟩ := hcut
  have LW := hb1.trans (M3.mono hb1.size)
  have hgl := (own_lt ownl (b := g) rfl).2
  have hge := (own_lt ownl (b := g) rfl).1
  have hl := Lib.hid ownl
  have zb1 := hb1.size
  clear ownl M3 hb1 hlies
  obtain ⟨b, hb⟩ : ∃ b, vld (bytesL s) = b := ⟨_, rfl⟩
  have htx := Lib.hid (fun (w : World) (h : Below W.heap.size W w) => vtext_any s hs w (hg'.out w h))
  have hva := Lib.hid (fun (w : World) => valid_any s (by omega) w)
  rw [hb] at htx hva
  go_upto_region 4 with fail
  go_cut [7, 8] (fun p e (wx : World) => ∃ (g7 : Nat) (e7 : Int) (v7 : V5), p = .pointer (some ⟨g7, 0, none⟩) ∧ e = .int .i64 e7 ∧ Hid (e7 = (if b then 0 else 140) ∧ v7 = (if b then leaf5 4 0 s else zero5)) ∧ Blk wx g7 v7.cs 39 ∧ Below wc.heap.size wc wx)
  case first =>
    cases b
    all_goals
      simp only [Bool.false_eq_true, if_false, if_true, V5.v, V5.cs] at htx
      go_wp2_with (go_at_call 13; refine (htx.out _ LW).mono ?_; rintro e w2 ⟨rfl, hb2⟩)
      go_meet
      first
        | exact ⟨_, 140, zero5, rfl, rfl, Lib.hid ⟨rfl, rfl⟩, Blk.new _ _ _, Below.alloc hb2 hb2.size _⟩
        | exact ⟨_, 0, leaf5 4 0 s, rfl, rfl, Lib.hid ⟨rfl, rfl⟩, Blk.new _ _ _, Below.alloc hb2 hb2.size _⟩
  case rest =>
  obtain ⟨g7, e7, v7, rfl, rfl, h7, k7, M4⟩ := hcut
  replace hl := Lib.hid (own_after hl.out M4)
  replace LW := LW.trans (M4.mono LW.size)
  have hgl' := Nat.lt_of_lt_of_le hgl M4.size
  clear M4 htx hgl
  have hgl := hgl'
  clear hgl'
  go_upto_region 5 with fail
  go_cut [9] (fun v (wx : World) => v = .bool b ∧ Below wc.heap.size wc wx)
  case first =>
    go_wp2_with (go_at_call 14; refine (hva.out _).mono ?_; rintro e w2 ⟨rfl, hb2⟩)
    go_meet
    exact ⟨rfl, hb2⟩
  case rest =>
  obtain ⟨rfl, M5⟩ := hcut
  replace hl := Lib.hid (own_after hl.out M5)
  replace LW := LW.trans (M5.mono LW.size)
  replace k7 := k7.kept M5
  have hgl' := Nat.lt_of_lt_of_le hgl M5.size
  clear M5 hva hgl
  have hgl := hgl'
  clear hgl'
  go_upto_region 6 with fail
  go_cut [62] (fun v (wx : World) => v = .bool false ∧ Below wc.heap.size wc wx)
  case first =>
    cases b
    · obtain ⟨rfl, rfl⟩ := h7.out
      simp only [Bool.false_eq_true, if_false, V5.cs] at k7 ⊢
      have hz := Lib.hid zero_any
      simp only [V5.v, V5.cs] at hz
      have x0 := k7.cell 0
      have x1 := k7.cell 1
      have x2 := k7.cell 2
      have x3 := k7.cell 3
      have x4 := k7.cell 4
      simp at x0 x1 x2 x3 x4
      go_wp2_with (go_at_call 15; refine (hz.out _).mono ?_; rintro e w2 ⟨rfl, hb2⟩)
      go_meet
      exact ⟨rfl, hb2⟩
    · obtain ⟨rfl, rfl⟩ := h7.out
      simp only [if_true, V5.cs] at k7 ⊢
      have hsm := Lib.hid (fun w => leaf_same 4 0 s hs (by omega) (.inr (.inr (.inr (.inl ⟨rfl, hb, rfl, rfl, rfl⟩)))) w)
      simp only [V5.v, V5.cs] at hsm
      have x0 := k7.cell 0
      have x1 := k7.cell 1
      have x2 := k7.cell 2
      have x3 := k7.cell 3
      have x4 := k7.cell 4
      simp at x0 x1 x2 x3 x4
      go_wp2_with (go_at_call 16; refine (hsm.out _).mono ?_; rintro e w2 ⟨rfl, hb2⟩)
      go_meet
      exact ⟨rfl, hb2⟩
  case rest =>
  obtain ⟨rfl, M6⟩ := hcut
  replace hl := Lib.hid (own_after hl.out M6)
  replace LW := LW.trans (M6.mono LW.size)
  have hgl' := Nat.lt_of_lt_of_le hgl M6.size
  clear M6 k7 hb hgl
  have hgl := hgl'
  clear hgl'
  have hob := Lib.hid (fun (w : World) (h : Below W.heap.size W w) (g8 c8 : Nat) (hl : Lies w 6 (some ⟨g8, 0, none⟩) k (ds.flatMap encP)) => object_lay (h := hh) (tr := tr) ⟨g8, 0, none⟩ c8 ds k hdn hl (hlay.out w h) hkey.out (by omega) hhb (hg'.out w h))
  go_upto_region 8 with fail
  go_cut [10, 8] (fun p e (wx : World) => ∃ (g8 : Nat) (er : Int) (v8 : V5), p = .pointer (some ⟨g8, 0, none⟩) ∧ e = .int .i64 er ∧ Blk wx g8 v8.cs 39 ∧ ObjOut hh tr ds (.returned (.tuple #[v8.v, .int .i64 er])) wx ∧ Below wc.heap.size wc wx)
  case first =>
    go_wp2_with (first
      | (at_builtin; refine wpList_append_row rfl (.tmp 64) (.tmp 65) 48 rfl wc.heap.size 56 i0 _ 6 96 Tryd.underlying48 hin hz0 hz1 hz2 rfl (by decide) (.slice (some ⟨wc.heap.size, 0, none⟩) 0 0) 0 [] rfl (World.ownsRow_lit wc #[] 0 (Nat.le_refl _) (by decide) rfl) (some ⟨g, 0, none⟩) k c' (ds.flatMap encP) rfl ((own_lies hl.out).below (Below.alloc (Below.refl _ _) (Nat.le_refl _) _)) hone.out (by unfold maxLen; omega) (by omega) (by go_size) ?_; intro v1 wa hown1 hgrow1 hne1; rw [Nat.zero_add, List.nil_append] at hown1; (obtain ⟨g8, cap8, rfl, hgb8, hgl8, hgc8⟩ := own_nonnil hown1 (by simp) hne1); have La := Below.grown (Below.alloc (Below.refl wc.heap.size wc) (Nat.le_refl _) (.cells #[] 56)) hgrow1 (by simp) (fun b hb => by simp [Value.ownBlock] at hb; omega); have hli := Lib.hid (own_lies hown1))
      | (go_at_call 17; refine (hob.out _ (LW.trans (La.mono LW.size)) g8 cap8 hli.out).mono ?_; rintro e w3 ⟨ho, hb3⟩; (obtain ⟨v8, er, rfl⟩ := ho.form); have Lb := Below.after La hb3 La.size; have ho' := Lib.hid ho; clear ho; (obtain ⟨vk, vn, vs, vp, vnp, vcp, vq, vnq, vcq⟩ := v8)))
    go_meet
    exact ⟨_, er, ⟨vk, vn, vs, vp, vnp, vcp, vq, vnq, vcq⟩, rfl, rfl, Blk.new _ _ _, ho'.out.below (Below.alloc (Below.refl _ _) (Nat.le_refl _) _), Below.alloc Lb Lb.size _⟩
  case rest =>
  obtain ⟨g8, er, v8, rfl, rfl, k8, o8, M8⟩ := hcut
  replace LW := LW.trans (M8.mono LW.size)
  have hgl' := Nat.lt_of_lt_of_le hgl M8.size
  replace hl := Lib.hid (own_after hl.out M8)
  clear hgl
  have hgl := hgl'
  clear hgl'
  clear M8 hob
  have hro := Lib.hid (fun (w : World) (h : Below W.heap.size W w) (ho : w.ownsRow w1.heap.size 56 6 (.slice (some ⟨g, 0, none⟩) k c') k (ds.flatMap encP)) => robject_lay (h := hh) (tr := tr) (some ⟨g, 0, none⟩) c' ds k hdn (fun _ => ⟨g, 0, rfl, (own_lt ho (b := g) rfl).2, fun i hi j hj => by
    rw [Nat.zero_add, ho.cellAt (i * 6 + j) (by omega)]
    exact flat_get' encP 6 encP_len ds i hi j hj⟩) (hlay.out w h) hkey.out (by omega))
  obtain ⟨vk, vn, vs, vp, vnp, vcp, vq, vnq, vcq⟩ := v8
  have ho8 := Lib.hid o8
  clear o8
  go_upto_region 9 with fail
  go_cut [11, 12] (fun p e (wx : World) => ∃ (g9 : Nat) (er9 : Int) (v9 : V5), p = .pointer (some ⟨g9, 0, none⟩) ∧ e = .int .i64 er9 ∧ Blk wx g9 v9.cs 39 ∧ ObjOut hh tr ds (.returned (.tuple #[v9.v, .int .i64 er9])) wx ∧ Below wc.heap.size wc wx)
  case first =>
    go_wp2_with (go_at_call 18; refine (hro.out _ LW hl.out).mono ?_; rintro e w3 ⟨ho, hb3⟩; (obtain ⟨v9, er9, rfl⟩ := ho.form); have ho' := Lib.hid ho; clear ho; (obtain ⟨uk, un, us, up, unp, ucp, uq, unq, ucq⟩ := v9))
    go_meet
    exact ⟨_, er9, ⟨uk, un, us, up, unp, ucp, uq, unq, ucq⟩, rfl, rfl, Blk.new _ _ _, ho'.out.below (Below.alloc (Below.refl _ _) (Nat.le_refl _) _), Below.alloc hb3 hb3.size _⟩
  case rest =>
  obtain ⟨g9, er9, v9, rfl, rfl, k9, o9, M9⟩ := hcut
  have hbo := ObjOut.both (ho8.out.below M9) o9
  obtain ⟨rfl, hbo⟩ := hbo
  have hbo' := Lib.hid hbo
  clear hbo
  replace LW := LW.trans (M9.mono LW.size)
  have hgl' := Nat.lt_of_lt_of_le hgl M9.size
  replace hl := Lib.hid (own_after hl.out M9)
  clear hgl
  have hgl := hgl'
  clear hgl'
  replace k8 := k8.kept M9
  clear M9 hro ho8 o9
  go_upto_region 10 with fail
  go_cut [87] (fun v (wx : World) => v = .bool false ∧ Below wc.heap.size wc wx)
  case first =>
    rcases hbo'.out with ⟨rfl, t, hrt, hl8, hl9⟩ | ⟨hne, e8, rfl⟩
    · have hty := Lib.hid (told_yes hl8 hl9 hrt)
      clear hl8 hl9 hrt
      obtain ⟨uk, un, us, up, unp, ucp, uq, unq, ucq⟩ := v9
      simp only [V5.v, V5.cs] at hty k8 k9
      have x0 := k8.cell 0
      have x1 := k8.cell 1
      have x2 := k8.cell 2
      have x3 := k8.cell 3
      have x4 := k8.cell 4
      simp at x0 x1 x2 x3 x4
      have y0 := k9.cell 0
      have y1 := k9.cell 1
      have y2 := k9.cell 2
      have y3 := k9.cell 3
      have y4 := k9.cell 4
      simp at y0 y1 y2 y3 y4
      go_wp2_with (go_at_call 19; refine hty.out.mono ?_; rintro e w2 ⟨rfl, hb2⟩)
      go_meet
      exact ⟨rfl, hb2⟩
    · have htn := Lib.hid (fun w => told_no zero5 w)
      have hz : (⟨vk, vn, vs, vp, vnp, vcp, vq, vnq, vcq⟩ : V5) = zero5 := e8
      rw [hz] at k8
      simp only [V5.v, V5.cs] at htn k8 k9
      clear hz e8
      have hbe : (er9 == 0) = false := by simpa using hne
      have x0 := k8.cell 0
      have x1 := k8.cell 1
      have x2 := k8.cell 2
      have x3 := k8.cell 3
      have x4 := k8.cell 4
      simp at x0 x1 x2 x3 x4
      have y0 := k9.cell 0
      have y1 := k9.cell 1
      have y2 := k9.cell 2
      have y3 := k9.cell 3
      have y4 := k9.cell 4
      simp at y0 y1 y2 y3 y4
      go_wp2_with (go_at_call 19; refine (htn.out _).mono ?_; rintro e w2 ⟨rfl, hb2⟩)
      go_meet
      exact ⟨rfl, hb2⟩
  case rest =>
  obtain ⟨rfl, M10⟩ := hcut
  replace LW := LW.trans (M10.mono LW.size)
  have hgl' := Nat.lt_of_lt_of_le hgl M10.size
  replace hl := Lib.hid (own_after hl.out M10)
  clear hgl
  have hgl := hgl'
  clear hgl'
  clear M10 hbo' k8 k9
  go_upto_region 12 with fail
  go_cut [13] (fun v (wx : World) => ∃ gk, v = .pointer (some ⟨gk, 0, none⟩) ∧ wc.heap.size ≤ gk ∧ Blk wx gk #[.int .i64 5, .int .i64 0, .string ⟨#[]⟩, .slice none 0 0, .slice none 0 0] 39 ∧ Below wc.heap.size wc wx)
  case first =>
    go_wp2_with fail
    go_meet
    exact ⟨_, rfl, Nat.le_refl _, Blk.new _ _ _, Below.alloc (Below.refl _ _) (Nat.le_refl _) _⟩
  case rest =>
  obtain ⟨gk, rfl, hgk, kb, M12⟩ := hcut
  have hne : g ≠ gk := by omega
  have hWk : W.heap.size ≤ gk := Nat.le_trans LW.size hgk
  replace LW := LW.trans (M12.mono LW.size)
  have hgl' := Nat.lt_of_lt_of_le hgl M12.size
  replace hl := Lib.hid (own_after hl.out M12)
  have hkb := kb.lt
  clear hgl hgk M12
  have hgl := hgl'
  clear hgl'
  obtain ⟨B, hB⟩ : ∃ B, B = wc.heap.size := ⟨_, rfl⟩
  have K0 : Aside (KRel W B g gk ds 0 (.slice none 0 0) wc) := ⟨kb, World.ownsRow_nil _ _ _ _, fun i hi c hc => by
    rw [hl.out.cellAt (i * 6 + c) (by omega)]
    exact flat_get' encP 6 encP_len ds i hi c hc, LW, by omega⟩
  have hgB : g < B := by omega
  have hkB : gk < B := by omega
  clear kb hl LW hgl hkb hB
  go_wp2_with fail
  go_loopw [91] (fun i wr => ∃ (j : Nat) (pv : Value), i = .int .i64 (j : Int) ∧ j ≤ k ∧ KRel W B g gk ds j pv wr) (fun i _ => k - (intOf i).toNat)
  case atStart => exact ⟨0, _, rfl, by omega, K0⟩
  case round =>
  clear K0
  obtain ⟨j, pv, rfl, hj, hrel⟩ := hrel
  have hK := Lib.hid hrel
  have kb := hrel.kb
  have zr := hrel.sz
  by_cases hlt : j < k
  · have hlz : (j : Int) < k := by omega
    have hjl : j < ds.length := by omega
    obtain ⟨x, hx⟩ : ∃ x, ds[j]? = some x := ⟨ds[j], by simp [hjl]⟩
    have hcell : ∀ c, c < 6 → wr.cell? ⟨g, j * 6 + c, none⟩ = (encP x)[c]? := fun c hc => by
      rw [hrel.ol j hjl c hc]
      have : ds[j] = x := by simpa [hjl] using hx
      rw [this]
    have hxk := Lib.hid hx
    obtain ⟨key, ⟨vk, vn, vs, vp, vnp, vcp, vq, vnq, vcq⟩⟩ := x
    have y0 := hcell 0 (by omega)
    have y1 := hcell 1 (by omega)
    have y2 := hcell 2 (by omega)
    have y3 := hcell 3 (by omega)
    have y4 := hcell 4 (by omega)
    have y5 := hcell 5 (by omega)
    simp only [encP, Nat.add_zero, List.getElem?_cons_zero, List.getElem?_cons_succ] at y0 y1 y2 y3 y4 y5
    clear hcell hx hrel
    go_upto_region 16 with fail
    have kp : Blk (wr.alloc (.cells #[.string key, .int .i64 vk, .int .i64 vn, .string vs, .slice vp vnp vcp, .slice vq vnq vcq] 56)) wr.heap.size #[.string key, .int .i64 vk, .int .i64 vn, .string vs, .slice vp vnp vcp, .slice vq vnq vcq] 56 := Blk.new _ _ _
    have kbq := kb.alloc (.cells #[.string key, .int .i64 vk, .int .i64 vn, .string vs, .slice vp vnp vcp, .slice vq vnq vcq] 56)
    have hwq : Hid (wr.alloc (.cells #[.string key, .int .i64 vk, .int .i64 vn, .string vs, .slice vp vnp vcp, .slice vq vnq vcq] 56) = _) := Lib.hid rfl
    have zq : B ≤ (wr.alloc (.cells #[.string key, .int .i64 vk, .int .i64 vn, .string vs, .slice vp vnp vcp, .slice vq vnq vcq] 56)).heap.size := by simp; omega
    have owq := Lib.hid (hK.out.ow.alloc (.cells #[.string key, .int .i64 vk, .int .i64 vn, .string vs, .slice vp vnp vcp, .slice vq vnq vcq] 56))
    clear y0 y1 y2 y3 y4 y5 kb
    generalize hgw : wr.alloc (.cells #[.string key, .int .i64 vk, .int .i64 vn, .string vs, .slice vp vnp vcp, .slice vq vnq vcq] 56) = wq at *
    have hgw' := Lib.hid hgw
    clear hgw hwq
    have x0 := kp.cell 0
    have x1 := kp.cell 1
    have x2 := kp.cell 2
    have x3 := kp.cell 3
    have x4 := kp.cell 4
    simp at x0 x1 x2 x3 x4
    have x5 := kp.cell 5
    simp at x5
    have z3 := kbq.cell 3
    simp at z3
    have hfar : some gk ≠ pv.ownBlock := fun e => by
      have := (own_lt owq.out e.symm).1
      omega
    have hfar' := Lib.hid hfar
    clear hfar
    go_wp2_with (at_builtin; refine wpList_append_lies _ rfl (.tmp 96) (.tmp 99) 36 rfl B 39 i5 _ 5 80 Tryd.underlying36 hin5 hz50 hz51 hz52 rfl (by decide) pv j _ rfl (owq.out.alloc _) ⟨wq.heap.size, 0, none⟩ 1 1 [.int .i64 vk, .int .i64 vn, .string vs, .slice vp vnp vcp, .slice vq vnq vcq] rfl rfl (World.news_of_block (Blk.new _ _ _)) (by simp [Value.oneCell']) (by decide) (by unfold maxLen; omega) (by omega) (by go_size) (wq.heap.size + 1) (by simp) ?_; intro g1 cap1 wa hown1 hgrow1 hat1 hlt1; have k5a := Blk.grown (kbq.alloc _) hgrow1 hfar'.out; have m3a := k5a.cell 3; have n3a := k5a.frozen 3; simp at m3a)
    exact ⟨⟨j + 1, _, by simp, by omega, KRel.next hK.out hkB hgB hne hWk hjl hxk.out hgw'.out hown1 hgrow1⟩, by simp [intOf]; omega⟩
  · have hjk : j = k := by omega
    subst hjk
    have hlz : ¬((j : Int) < j) := by omega
    obtain ⟨q, cq, rfl⟩ := own_slice hrel.ow
    have ow0 := hrel.ow
    rw [List.take_of_length_le (by omega)] at ow0
    have ow := Lib.hid ow0
    have LW := hrel.lw
    clear hK hrel ow0
    obtain ⟨tL, htL⟩ : ∃ tL, tL = T.mk 5 0 ⟨#[]⟩ [] ((ds.map PV.v).map tr) := ⟨_, rfl⟩
    obtain ⟨r, hr⟩ : ∃ r, rightT (hh + 1) tL = r := ⟨_, rfl⟩
    have hvs := Lib.hid (show ∀ w, Below W.heap.size W w → ∀ x ∈ ds.map PV.v, Lay w hh x (tr x) from fun w hb x hx => by
      obtain ⟨y, hy, rfl⟩ := List.mem_map.1 hx
      exact hlay.out w hb y hy)
    have hvl : (ds.map PV.v).length = j := by rw [List.length_map, hdn]
    have hli := Lib.hid (fun (w : World) (h : Below W.heap.size W w) (g8 c8 : Nat) (hl : Lies w 5 (some ⟨g8, 0, none⟩) j (valC ds)) => list_lay (h := hh) (tr := tr) ⟨g8, 0, none⟩ c8 (ds.map PV.v) j hvl (valC_map ds ▸ hl) (hvs.out w h) (by omega) hhb (hg'.out w h))
    rw [← htL, hr] at hli
    have hki := Lib.hid (fun (w : World) (h : Below W.heap.size W w) (ho : w.ownsRow B 39 5 (.slice q j cq) j (valC ds)) => lay_kids (h := hh) (tr := tr) hvl (valC_map ds ▸ ho) (hvs.out w h) (by omega))
    rw [← htL] at hki
    have hone5 := Lib.hid (valC_one ds)
    clear htL
    have x0 := kb.cell 0
    have x1 := kb.cell 1
    have x2 := kb.cell 2
    have x3 := kb.cell 3
    have x4 := kb.cell 4
    simp at x0 x1 x2 x3 x4
    have lk := kb.lt
    go_upto_region 18 with fail
    go_cut [16, 8] (fun p e (wx : World) => ∃ (g16 : Nat) (er : Int) (v16 : V5), p = .pointer (some ⟨g16, 0, none⟩) ∧ e = .int .i64 er ∧ Blk wx g16 v16.cs 39 ∧ Hid ((r = true ∧ er = 0 ∧ Lay wx (hh + 1) v16 tL) ∨ (r = false ∧ er = 140 ∧ v16 = zero5)) ∧ Below wr.heap.size wr wx)
    case first =>
      go_wp2_with (first
        | (at_builtin; refine wpList_append_row rfl (.tmp 104) (.tmp 106) 36 rfl wr.heap.size 39 i5 _ 5 80 Tryd.underlying36 hin5 hz50 hz51 hz52 rfl (by decide) (.slice (some ⟨wr.heap.size, 0, none⟩) 0 0) 0 [] rfl (World.ownsRow_lit wr #[] 0 (Nat.le_refl _) (by decide) rfl) q j cq (valC ds) rfl ((own_lies ow.out).below (Below.alloc (Below.refl _ _) (Nat.le_refl _) _)) hone5.out (by unfold maxLen; omega) (by omega) (by go_size) ?_; intro v1 wa hown1 hgrow1 hne1; rw [Nat.zero_add, List.nil_append] at hown1; (obtain ⟨g8, cap8, rfl, hgb8, hgl8, hgc8⟩ := own_nonnil hown1 (by simp) hne1); have La := Below.grown (Below.alloc (Below.refl wr.heap.size wr) (Nat.le_refl _) (.cells #[] 39)) hgrow1 (by simp) (fun b hb => by simp [Value.ownBlock] at hb; omega); have hlx := Lib.hid (own_lies hown1))
        | (go_at_call 20; refine (hli.out _ (LW.trans (La.mono LW.size)) g8 cap8 hlx.out).mono ?_; rintro e w3 ⟨ho, hb3⟩; have Lb := Below.after La hb3 La.size; have hfo := list_form ho; (obtain ⟨v16, er, rfl, hfo⟩ := hfo); have hfo' := Lib.hid hfo; clear hfo ho; (obtain ⟨vk, vn, vs, vp, vnp, vcp, vq, vnq, vcq⟩ := v16)))
      go_meet
      refine ⟨_, er, ⟨vk, vn, vs, vp, vnp, vcp, vq, vnq, vcq⟩, rfl, rfl, Blk.new _ _ _, Lib.hid ?_, Below.alloc Lb Lb.size _⟩
      exact hfo'.out.imp (fun h => ⟨h.1, h.2.1, h.2.2.below (Below.alloc (Below.refl _ _) (Nat.le_refl _) _)⟩) id
    case rest =>
    obtain ⟨g16, er, v16, rfl, rfl, k16, hout, M18⟩ := hcut
    clear x0 x1 x2 x3 x4
    replace kb := kb.kept M18
    replace ow := Lib.hid (own_after ow.out M18)
    replace LW := LW.trans (M18.mono LW.size)
    clear M18 hli
    have x0 := kb.cell 0
    have x1 := kb.cell 1
    have x2 := kb.cell 2
    have x3 := kb.cell 3
    have x4 := kb.cell 4
    simp at x0 x1 x2 x3 x4
    have hri := Lib.hid (rright_any (hki.out _ LW ow.out))
    rw [hr] at hri
    simp only [V5.v, V5.cs] at hri
    go_upto_region 19 with fail
    go_cut [17] (fun v (wx : World) => v = .bool r ∧ Below wc.heap.size wc wx)
    case first =>
      go_wp2_with (go_at_call 21; refine hri.out.mono ?_; rintro e w2 ⟨rfl, hb2⟩)
      go_meet
      exact ⟨rfl, hb2⟩
    case rest =>
    obtain ⟨rfl, M19⟩ := hcut
    clear x0 x1 x2 x3 x4 hri
    replace kb := kb.kept M19
    replace k16 := k16.kept M19
    replace ow := Lib.hid (own_after ow.out M19)
    replace LW := LW.trans (M19.mono LW.size)
    have hout2 := Lib.hid (hout.out.imp (fun h => (⟨h.1, h.2.1, h.2.2.below M19⟩ : _ ∧ _ ∧ Lay _ _ _ _)) id)
    clear M19 hout
    have x0 := kb.cell 0
    have x1 := kb.cell 1
    have x2 := kb.cell 2
    have x3 := kb.cell 3
    have x4 := kb.cell 4
    simp at x0 x1 x2 x3 x4
    go_upto_region 20 with fail
    go_cut [133] (fun v (wx : World) => v = .bool false ∧ Below wc.heap.size wc wx)
    case first =>
      rcases hout2.out with ⟨rfl, rfl, hl16⟩ | ⟨rfl, rfl, rfl⟩
      · have hty := Lib.hid (told_yes hl16 (hki.out _ LW ow.out) ((rightT_iff _ _).1 hr))
        clear hl16
        obtain ⟨uk, un, us, up, unp, ucp, uq, unq, ucq⟩ := v16
        simp only [V5.v, V5.cs] at hty k16
        have y0 := k16.cell 0
        have y1 := k16.cell 1
        have y2 := k16.cell 2
        have y3 := k16.cell 3
        have y4 := k16.cell 4
        simp at y0 y1 y2 y3 y4
        go_wp2_with (go_at_call 19; refine hty.out.mono ?_; rintro e w2 ⟨rfl, hb2⟩)
        go_meet
        exact ⟨rfl, hb2⟩
      · have htn := Lib.hid (fun w => told_no ⟨5, 0, ⟨#[]⟩, q, j, cq, none, 0, 0⟩ w)
        simp only [V5.v, V5.cs] at htn k16
        have y0 := k16.cell 0
        have y1 := k16.cell 1
        have y2 := k16.cell 2
        have y3 := k16.cell 3
        have y4 := k16.cell 4
        simp at y0 y1 y2 y3 y4
        go_wp2_with (go_at_call 19; refine (htn.out _).mono ?_; rintro e w2 ⟨rfl, hb2⟩)
        go_meet
        exact ⟨rfl, hb2⟩
    case rest =>
    obtain ⟨rfl, M20⟩ := hcut
    replace LW := LW.trans (M20.mono LW.size)
    clear M20 hout2 k16 kb ow x0 x1 x2 x3 x4 hki hr
    have vb := Lib.hid (fun b w => vbool_any b w)
    go_upto_region 22 with fail
    go_cut [18, 19] (fun p e (wx : World) => ∃ (ga gb : Nat), p = .pointer (some ⟨ga, 0, none⟩) ∧ e = .pointer (some ⟨gb, 0, none⟩) ∧ Blk wx ga (leaf5 2 1 ⟨#[]⟩).cs 39 ∧ Blk wx gb (leaf5 2 0 ⟨#[]⟩).cs 39 ∧ Below wc.heap.size wc wx)
    case first =>
      have v1 := Lib.hid (fun w => vb.out true w)
      have v0 := Lib.hid (fun w => vb.out false w)
      simp only [Bool.false_eq_true, if_false, if_true, V5.v, V5.cs] at v1 v0
      clear vb
      go_wp2_with (first
        | (go_at_call_of 22 true; refine (v1.out _).mono ?_; rintro e w2 ⟨rfl, hb2⟩)
        | (go_at_call_of 22 false; refine (v0.out _).mono ?_; rintro e w3 ⟨rfl, hb3⟩; have Lb := Below.after hb2 hb3 hb2.size))
      go_meet
      exact ⟨_, _, rfl, rfl, Blk.alloc (Blk.new _ _ _) _, Blk.new' (by simp), Below.alloc (Below.alloc Lb Lb.size _) (by have := Lb.size; simp only [World.size_alloc]; omega) _⟩
    case rest =>
    obtain ⟨ga, gb, rfl, rfl, ka, kb, M22⟩ := hcut
    replace LW := LW.trans (M22.mono LW.size)
    clear M22
    have c23 := Lib.hid (fun w => vnull_any w)
    have c24 := Lib.hid (fun w => vint_any n w)
    have s1 := Lib.hid (fun w => leaf_same 1 0 ⟨#[]⟩ (by decide) (by omega) (.inl ⟨rfl, rfl, rfl, rfl, rfl⟩) w)
    have s3 := Lib.hid (fun w => leaf_same 3 n ⟨#[]⟩ (by decide) (by omega) (.inr (.inr (.inl ⟨rfl, rfl, rfl, rfl⟩))) w)
    have s2 := Lib.hid (fun w => leaf_same 2 1 ⟨#[]⟩ (by decide) (by omega) (.inr (.inl ⟨rfl, .inr rfl, rfl, rfl, rfl⟩)) w)
    have s4 := Lib.hid (fun w => leaf_same 2 0 ⟨#[]⟩ (by decide) (by omega) (.inr (.inl ⟨rfl, .inl rfl, rfl, rfl, rfl⟩)) w)
    simp only [V5.v, V5.cs] at c23 c24 s1 s3 s2 s4 ka kb
    go_wp2_with (first
      | (go_at_call 23; refine (c23.out _).mono ?_; rintro e w2 ⟨rfl, hb2⟩; have ka2 := ka.kept hb2; have kb2 := kb.kept hb2; have L2 := LW.trans (hb2.mono LW.size))
      | (go_at_call 24; refine (c24.out _).mono ?_; rintro e w4 ⟨rfl, hb4⟩; have ka4 := ka3.kept hb4; have kb4 := kb3.kept hb4; have L4 := L3.trans (hb4.mono L3.size))
      | (go_at_call 16; with_reducible refine (s1.out _).mono ?_; rintro e w3 ⟨rfl, hb3⟩; have ka3 := ka2.kept hb3; have kb3 := kb2.kept hb3; have L3 := L2.trans (hb3.mono L2.size))
      | (go_at_call 16; with_reducible refine (s3.out _).mono ?_; rintro e w5 ⟨rfl, hb5⟩; have ka5 := ka4.kept hb5; have kb5 := kb4.kept hb5; have L5 := L4.trans (hb5.mono L4.size); have x0 := ka5.cell 0; have x1 := ka5.cell 1; have x2 := ka5.cell 2; have x3 := ka5.cell 3; have x4 := ka5.cell 4; simp at x0 x1 x2 x3 x4)
      | (go_at_call 16; with_reducible refine (s2.out _).mono ?_; rintro e w6 ⟨rfl, hb6⟩; have kb6 := kb5.kept hb6; have L6 := L5.trans (hb6.mono L5.size); have y0 := kb6.cell 0; have y1 := kb6.cell 1; have y2 := kb6.cell 2; have y3 := kb6.cell 3; have y4 := kb6.cell 4; simp at y0 y1 y2 y3 y4)
      | (go_at_call 16; with_reducible refine (s4.out _).mono ?_; rintro e w7 ⟨rfl, hb7⟩; have L7 := L6.trans (hb7.mono L6.size)))
    go_ret
    exact ⟨rfl, L7⟩

end Go.Proofs.YtmleipmilmeclaaDoor
