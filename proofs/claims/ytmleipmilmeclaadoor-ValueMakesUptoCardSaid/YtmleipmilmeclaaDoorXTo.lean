/- The law's wakes, its objects in plain Lean. -/
import Derived.Test.YtmleipmilmeclaaDoorXTm
import Derived.Test.YtmleipmilmeclaaDoorXTl
import Derived.Test.YtmleipmilmeclaaDoorXTi
namespace Go.Proofs.YtmleipmilmeclaaDoor
open Go.RowKit
attribute [local go_sem ↓] Go.wp_at_zero Go.wp_at_succ

/-- A leaf, as a tree. -/
def trL (v : V5) : T := .mk v.k v.n v.s [] []
abbrev pB : PV := ⟨kB, leaf5 3 1 ⟨#[]⟩⟩
abbrev pA : PV := ⟨kA, leaf5 1 0 ⟨#[]⟩⟩
def t1 : T := objT trL [pA, pB]

theorem al_t1 : al t1 = true := by
  rw [al_iff]
  refine .inr (.inr (.inr (.inr (.inr ⟨rfl, ?_, rfl, rfl, rfl⟩))))
  intro i h hi
  have hl : t1.ks.length = 2 := rfl
  have h2 : i = 0 ∨ i = 1 := by omega
  rcases h2 with rfl | rfl
  · exact ⟨show vld (bytesL kA) = true by decide +kernel, fun h => absurd h (by omega)⟩
  · exact ⟨show vld (bytesL kB) = true by decide +kernel, fun _ => lt_ab⟩
theorem al_null : al (.mk 1 0 ⟨#[]⟩ [] []) = true := by rw [al_iff]; exact .inl ⟨rfl, rfl, rfl, rfl, rfl⟩
theorem al_int (n : Int) : al (.mk 3 n ⟨#[]⟩ [] []) = true := by rw [al_iff]; exact .inr (.inr (.inl ⟨rfl, rfl, rfl, rfl⟩))

theorem pre_t1 : preT 2 0 t1 = [(0, 6, true), (1, 1, true), (1, 3, true)] := by
  have e : preT 2 0 t1 = (0, 6, al t1) :: ([(1, 1, al (.mk 1 0 ⟨#[]⟩ [] []))] ++ ([(1, 3, al (.mk 3 1 ⟨#[]⟩ [] []))] ++ [])) := rfl
  rw [e, al_t1, al_null, al_int]
  rfl
theorem right_t1 : RightT 2 t1 := by
  unfold RightT
  rw [pre_t1]
  refine ⟨by decide, ?_, ?_⟩ <;> (intro x hx; simp at hx; rcases hx with rfl | rfl | rfl <;> decide)

theorem trL_lay (W : World) (k n : Int) : Lay W 1 (leaf5 k n ⟨#[]⟩) (trL (leaf5 k n ⟨#[]⟩)) := leaf_lay W k n ⟨#[]⟩ (by decide)

abbrev c12 (a b : ByteArray) (k n k' n' : Int) : Array Value := #[.string a, .int .i64 k, .int .i64 n, .string ⟨#[]⟩, .slice none 0 0, .slice none 0 0, .string b, .int .i64 k', .int .i64 n', .string ⟨#[]⟩, .slice none 0 0, .slice none 0 0]

theorem lies2 {W : World} {g : Nat} {a b : ByteArray} {k n k' n' : Int} (hb : Blk W g (c12 a b k n k' n') 56) : Lies W 6 (some ⟨g, 0, none⟩) 2 ([(⟨a, leaf5 k n ⟨#[]⟩⟩ : PV), ⟨b, leaf5 k' n' ⟨#[]⟩⟩].flatMap encP) :=
  .inr ⟨_, rfl, by omega, rfl, World.news_of_block hb⟩

/-- The first object. -/
theorem obj_one {W : World} {g : Nat} (hb : Blk W g (c12 kB kA 3 1 1 0) 56) (hg : Gl W) :
    Calls Tryd.prog 17 #[.slice (some ⟨g, 0, none⟩) 2 2] W fun e w' => ∃ v : V5, e = .returned (.tuple #[v.v, .int .i64 0]) ∧ Lay w' 2 v t1 ∧ Below W.heap.size W w' := by
  refine (object_lay (h := 1) (tr := trL) ⟨g, 0, none⟩ 2 [pB, pA] 2 rfl (lies2 hb) (fun x hx => ?_) (fun x hx => ?_) (by omega) (by omega) hg).mono ?_
  · simp at hx; rcases hx with rfl | rfl <;> exact trL_lay _ _ _
  · simp at hx; rcases hx with rfl | rfl <;> decide
  · rintro e w' ⟨h, hbw⟩
    rcases h with ⟨hn, _⟩ | ⟨L, hp, hs, h⟩
    · exact absurd (show ([pB, pA].map PV.key).Nodup by decide) hn
    · have hL : L = [pA, pB] := sorted_unique PV.key hp (List.Perm.swap pB pA []) hs (by simp; exact lt_ab)
      subst hL
      rcases h with ⟨_, v, rfl, hl⟩ | ⟨h, _⟩
      · exact ⟨v, rfl, hl, hbw⟩
      · rw [show rightT (1 + 1) (objT trL [pA, pB]) = true from (rightT_iff _ _).2 right_t1] at h
        cases h

/-- The second object: a key twice. -/
theorem obj_two {W : World} {g : Nat} (hb : Blk W g (c12 kA kA 3 1 3 2) 56) (hg : Gl W) :
    Calls Tryd.prog 17 #[.slice (some ⟨g, 0, none⟩) 2 2] W fun e w' => e = .returned (.tuple #[zero5.v, .int .i64 141]) ∧ Below W.heap.size W w' := by
  refine (object_lay (h := 1) (tr := trL) ⟨g, 0, none⟩ 2 [⟨kA, leaf5 3 1 ⟨#[]⟩⟩, ⟨kA, leaf5 3 2 ⟨#[]⟩⟩] 2 rfl (lies2 hb) (fun x hx => ?_) (fun x hx => ?_) (by omega) (by omega) hg).mono ?_
  · simp at hx; rcases hx with rfl | rfl <;> exact trL_lay _ _ _
  · simp at hx; rcases hx with rfl | rfl <;> decide
  · rintro e w' ⟨h, hbw⟩
    rcases h with ⟨_, he⟩ | ⟨L, hp, hs, _⟩
    · exact ⟨he, hbw⟩
    · have := ((hp.map PV.key).nodup_iff).1 (sorted_nodup PV.key hs)
      exact absurd this (by decide)

/-- What lies as the first object. -/
theorem lay_t1 {W : World} {v : V5} (h : Lay W 2 v t1) : ∃ bp op cp bq oq cq u, v = ⟨6, 0, ⟨#[]⟩, some ⟨bp, op, none⟩, 2, cp, some ⟨bq, oq, none⟩, 2, cq⟩ ∧ bp < W.heap.size ∧ bq < W.heap.size ∧
    W.cell? ⟨bq, oq, none⟩ = some (.string kA) ∧ W.cell? ⟨bq, oq + 1, none⟩ = some (.string kB) ∧ KidAt W bp (op + 1 * 5) u ∧ u.k = 3 ∧ u.n = 1 := by
  obtain ⟨vk, vn, vs, vp, vnp, vcp, vq, vnq, vcq⟩ := v
  obtain ⟨⟨e1, e2, e3, e4, e5, _⟩, h2, h3⟩ := h
  simp only at e1 e2 e3 e4 e5 h2 h3
  rcases h2 with h2 | ⟨bq, oq, rfl, hq, hcq⟩
  · cases h2
  rcases h3 with h3 | ⟨bp, op, rfl, hp, hcp⟩
  · cases h3
  obtain ⟨u, hu, hlu⟩ := hcp 1 (show 1 < 2 by omega)
  have ek : u.k = 3 := hlu.1.1
  have en : u.n = 1 := hlu.1.2.1
  refine ⟨bp, op, vcp, bq, oq, vcq, u, ?_, hp, hq, hcq 0 (show 0 < 2 by omega), hcq 1 (show 1 < 2 by omega), hu, ek, en⟩
  rw [e1, e2, e3, e4, e5]
  rfl

end Go.Proofs.YtmleipmilmeclaaDoor

/- Walk: the law's wakes. -/
namespace Go.Proofs.YtmleipmilmeclaaDoor
open Go.RowKit
attribute [local go_sem ↓] Go.wp_at_zero Go.wp_at_succ

abbrev eAcute : ByteArray := ⟨#[195, 169]⟩
theorem eAcute_next : nextP (bytesL eAcute) = (233, ((eAcute.size : Nat) : Int)) := by decide +kernel
theorem eAcute_vld : vld (bytesL eAcute) = true := by decide +kernel

theorem check_zero (W : World) (hg : Gl W) : Calls Tryd.prog 11 #[zero5.v] W fun e w' => e = .returned (.int .i64 140) ∧ Below W.heap.size W w' := by
  have h := check_lay (leaf_lay W 0 0 ⟨#[]⟩ (by decide)) (by omega) hg
  have e : rightT 1 (.mk 0 0 ⟨#[]⟩ [] []) = false := by
    rw [Bool.eq_false_iff]
    intro h
    rw [rightT_iff, rightT_leaf _ _ _ (by omega)] at h
    unfold Al at h
    simp [T.k] at h
  rw [e] at h
  exact h

set_option maxRecDepth 100000 in
set_option maxHeartbeats 8000000 in
theorem wakes4_any (W : World) (hg : Gl W) : Calls Tryd.prog 12 #[] W fun e w' => e = .returned (.bool true) ∧ Below W.heap.size W w' := by
  have vi := Lib.hid (fun n w => vint_any n w)
  have vn := Lib.hid (fun w => vnull_any w)
  simp only [V5.v, V5.cs] at vi vn
  have o1 := Lib.hid (fun (w : World) (g : Nat) (h : Blk w g (c12 kB kA 3 1 1 0) 56) (hb : Below W.heap.size W w) => obj_one h (hg.below hb hg.lt hb.size))
  have o2 := Lib.hid (fun (w : World) (g : Nat) (h : Blk w g (c12 kA kA 3 1 3 2) 56) (hb : Below W.heap.size W w) => obj_two h (hg.below hb hg.lt hb.size))
  have tx := Lib.hid (fun (w : World) (hb : Below W.heap.size W w) => vtext_any eAcute (by decide) w (hg.below hb hg.lt hb.size))
  have ln := Lib.hid (fun (w : World) (hb : Below W.heap.size W w) => len_one eAcute (by decide) 233 eAcute_next (by decide) eAcute_vld w (hg.below hb hg.lt hb.size))
  have ck := Lib.hid (fun (w : World) (hb : Below W.heap.size W w) => check_zero w (hg.below hb hg.lt hb.size))
  have hg' := Lib.hid hg
  simp only [eAcute_vld, if_true] at tx
  simp only [V5.v, V5.cs] at tx ln ck o2
  have hglt := hg.lt
  clear hg
  go_enter Tryd.func12, Tryd.ntmps12
  go_upto_region 1 with fail
  go_cut [1, 2] (fun p e (wx : World) => ∃ g v, p = .pointer (some ⟨g, 0, none⟩) ∧ e = .int .i64 0 ∧ W.heap.size ≤ g ∧ Blk wx g v.cs 39 ∧ Lay wx 2 v t1 ∧ Below W.heap.size W wx)
  case first =>
    go_wp2_with (first
      | (go_at_call 24; refine (vi.out _ _).mono ?_; rintro e w1 ⟨rfl, hb1⟩)
      | (go_at_call 23; refine (vn.out _).mono ?_; rintro e w2 ⟨rfl, hb2⟩; have L2 := Below.after hb1 hb2 hb1.size)
      | (go_at_call 17; refine (o1.out _ _ (Blk.new _ _ _) (Below.alloc L2 L2.size _)).mono ?_; rintro e w3 ⟨v, rfl, hl, hb3⟩; have L3 := Below.after (Below.alloc L2 L2.size _) hb3 (Nat.le_trans L2.size (by simp)); obtain ⟨vk, vn, vs, vp, vnp, vcp, vq, vnq, vcq⟩ := v))
    go_meet
    refine ⟨_, ⟨vk, vn, vs, vp, vnp, vcp, vq, vnq, vcq⟩, rfl, rfl, L3.size, Blk.new _ _ _, hl.below (Below.alloc (Below.refl _ _) (Nat.le_refl _) _), Below.alloc L3 L3.size _⟩
  case rest =>
    obtain ⟨g, v, rfl, rfl, hgW, kb, hl, L1⟩ := hcut
    obtain ⟨bp, op, cp, bq, oq, cq, u, rfl, hbp, hbq, ca, cb, hu, hk3, hn1⟩ := lay_t1 hl
    have dp := Lib.hid (fun (w : World) (hb : Below wc.heap.size wc w) => depth_lay (hl.below hb) (by omega) (hg'.out.below (L1.trans (hb.mono L1.size)) hglt (Nat.le_trans L1.size hb.size)) right_t1)
    have nd := Lib.hid (fun (w : World) (hb : Below wc.heap.size wc w) => nodes_lay (hl.below hb) (by omega) (hg'.out.below (L1.trans (hb.mono L1.size)) hglt (Nat.le_trans L1.size hb.size)) right_t1)
    have ri := Lib.hid (fun (w : World) (hb : Below wc.heap.size wc w) => right_lay (hl.below hb) (by omega) (hg'.out.below (L1.trans (hb.mono L1.size)) hglt (Nat.le_trans L1.size hb.size)))
    rw [(rightT_iff 2 t1).2 right_t1] at ri
    rw [pre_t1] at dp nd
    have ed : depI [(0, 6, true), (1, 1, true), (1, 3, true)] = 1 := by decide
    rw [ed] at dp
    have ge := Lib.hid (fun (w : World) (hb : Below wc.heap.size wc w) => get_yes (W := w) ⟨6, 0, ⟨#[]⟩, some ⟨bp, op, none⟩, 2, cp, some ⟨bq, oq, none⟩, 2, cq⟩ u kB 1
      (fun W' hb' => place_b bq oq cq W' (((Below.after hb hb' hb.size).cell (p := ⟨bq, oq, none⟩) hbq).trans ca) (((Below.after hb hb' hb.size).cell (p := ⟨bq, oq + 1, none⟩) hbq).trans cb))
      (fun W' hb' => kid_yes ⟨6, 0, ⟨#[]⟩, some ⟨bp, op, none⟩, 2, cp, some ⟨bq, oq, none⟩, 2, cq⟩ rfl 1 (by simp) bp op rfl (Nat.lt_of_lt_of_le hbp (Nat.le_trans hb.size hb'.size)) u (hu.below (Below.after hb hb' hb.size) hbp) (fun W'' hb'' => (ri.out W'' (Below.after (Below.after hb hb' hb.size) hb'' (Nat.le_trans hb.size hb'.size))).mono fun e w h => ⟨h.1, h.2.mono (Nat.le_refl _)⟩)))
    have gn := Lib.hid (fun (w : World) (hb : Below wc.heap.size wc w) => get_no (W := w) ⟨6, 0, ⟨#[]⟩, some ⟨bp, op, none⟩, 2, cp, some ⟨bq, oq, none⟩, 2, cq⟩ kC (-1)
      (fun W' hb' => place_c bq oq cq W' (((Below.after hb hb' hb.size).cell (p := ⟨bq, oq + 1, none⟩) hbq).trans cb))
      (fun W' _ => kid_no ⟨6, 0, ⟨#[]⟩, some ⟨bp, op, none⟩, 2, cp, some ⟨bq, oq, none⟩, 2, cq⟩))
    obtain ⟨uk, un, us, up, unp, ucp, uq, unq, ucq⟩ := u
    simp only at hk3 hn1
    subst hk3 hn1
    simp only [V5.v, V5.cs] at dp nd ge gn kb
    clear ri hu cb hl
    have LW := L1
    have x0 := kb.cell 0
    have x1 := kb.cell 1
    have x2 := kb.cell 2
    have x3 := kb.cell 3
    have x4 := kb.cell 4
    simp at x0 x1 x2 x3 x4
    go_upto_region 2 with fail
    go_cut [46] (fun b (wx : World) => b = .bool false ∧ Below wc.heap.size wc wx)
    case first =>
      go_wp2_with (first
        | (go_at_call 33; refine (dp.out _ (by go_grown)).mono ?_; rintro e w1 ⟨rfl, hb1⟩; clear x0 x1 x2 x3 x4; have kk := kb.kept hb1; have x0 := kk.cell 0; have x1 := kk.cell 1; have x2 := kk.cell 2; have x3 := kk.cell 3; have x4 := kk.cell 4; simp at x0 x1 x2 x3 x4)
        | (go_at_call 34; refine (nd.out _ hb1).mono ?_; rintro e w2 ⟨rfl, hb2⟩))
      go_meet
      exact ⟨rfl, Below.after hb1 hb2 hb1.size⟩
    case rest =>
    obtain ⟨rfl, M⟩ := hcut
    clear x0 x1 x2 x3 x4 ca
    replace kb := kb.kept M
    replace LW := LW.trans (M.mono LW.size)
    have x0 := kb.cell 0
    have x1 := kb.cell 1
    have x2 := kb.cell 2
    have x3 := kb.cell 3
    have x4 := kb.cell 4
    simp at x0 x1 x2 x3 x4
    go_upto_region 4 with fail
    go_cut [3, 4] (fun p b (wx : World) => ∃ g3, p = .pointer (some ⟨g3, 0, none⟩) ∧ b = .bool true ∧ Blk wx g3 #[.int .i64 3, .int .i64 1, .string us, .slice up unp ucp, .slice uq unq ucq] 39 ∧ Below wc.heap.size wc wx)
    case first =>
      go_wp2_with (go_at_call 35; refine (ge.out _ M).mono ?_; rintro e w1 ⟨rfl, hb1⟩)
      go_meet
      exact ⟨_, rfl, rfl, Blk.new _ _ _, Below.alloc hb1 hb1.size _⟩
    case rest =>
    obtain ⟨g3, rfl, rfl, k3, M4⟩ := hcut
    clear x0 x1 x2 x3 x4
    replace kb := kb.kept M4
    replace LW := LW.trans (M4.mono LW.size)
    replace M := Below.after M M4 M.size
    have x0 := kb.cell 0
    have x1 := kb.cell 1
    have x2 := kb.cell 2
    have x3 := kb.cell 3
    have x4 := kb.cell 4
    simp at x0 x1 x2 x3 x4
    go_upto_region 5 with fail
    go_cut [5, 6] (fun p b (wx : World) => ∃ g5, p = .pointer (some ⟨g5, 0, none⟩) ∧ b = .bool false ∧ Below wc.heap.size wc wx)
    case first =>
      go_wp2_with (go_at_call 35; refine (gn.out _ M).mono ?_; rintro e w1 ⟨rfl, hb1⟩)
      go_meet
      exact ⟨_, rfl, rfl, Below.alloc hb1 hb1.size _⟩
    case rest =>
    obtain ⟨g5, rfl, rfl, M5⟩ := hcut
    clear x0 x1 x2 x3 x4 kb M M4 ge gn dp nd
    replace k3 := k3.kept M5
    replace LW := LW.trans (M5.mono LW.size)
    clear M5
    go_upto_region 6 with fail
    go_cut [7, 8] (fun p b (wx : World) => ∃ g7, p = .pointer (some ⟨g7, 0, none⟩) ∧ b = .int .i64 141 ∧ Below wc.heap.size wc wx)
    case first =>
      go_wp2_with (first
        | (go_at_call_of 24 (1 : Int); refine (vi.out _ _).mono ?_; rintro e w1 ⟨rfl, hb1⟩)
        | (go_at_call_of 24 (2 : Int); refine (vi.out _ _).mono ?_; rintro e w2 ⟨rfl, hb2⟩; have L2 := Below.after hb1 hb2 hb1.size)
        | (go_at_call 17; refine (o2.out _ _ (Blk.new _ _ _) (LW.trans ((Below.alloc L2 L2.size _).mono LW.size))).mono ?_; rintro e w3 ⟨rfl, hb3⟩; have L3 := Below.after (Below.alloc L2 L2.size _) hb3 (Nat.le_trans L2.size (by simp))))
      go_meet
      exact ⟨_, rfl, rfl, Below.alloc L3 L3.size _⟩
    case rest =>
    obtain ⟨g7, rfl, rfl, M7⟩ := hcut
    replace k3 := k3.kept M7
    replace LW := LW.trans (M7.mono LW.size)
    clear M7
    go_upto_region 7 with fail
    go_cut [9, 10] (fun p b (wx : World) => ∃ g9, p = .pointer (some ⟨g9, 0, none⟩) ∧ b = .int .i64 0 ∧ Blk wx g9 #[.int .i64 4, .int .i64 0, .string eAcute, .slice none 0 0, .slice none 0 0] 39 ∧ Below wc.heap.size wc wx)
    case first =>
      go_wp2_with (go_at_call 13; refine (tx.out _ LW).mono ?_; rintro e w1 ⟨rfl, hb1⟩)
      go_meet
      exact ⟨_, rfl, rfl, Blk.new _ _ _, Below.alloc hb1 hb1.size _⟩
    case rest =>
    obtain ⟨g9, rfl, rfl, k9, M9⟩ := hcut
    replace k3 := k3.kept M9
    replace LW := LW.trans (M9.mono LW.size)
    clear M9
    have x0 := k9.cell 0
    have x1 := k9.cell 1
    have x2 := k9.cell 2
    have x3 := k9.cell 3
    have x4 := k9.cell 4
    simp at x0 x1 x2 x3 x4
    go_upto_region 8 with fail
    go_cut [11, 12] (fun n b (wx : World) => n = .int .i64 1 ∧ b = .bool true ∧ Below wc.heap.size wc wx)
    case first =>
      go_wp2_with (go_at_call 36; refine (ln.out _ LW).mono ?_; rintro e w1 ⟨rfl, hb1⟩)
      go_meet
      exact ⟨rfl, rfl, hb1⟩
    case rest =>
    obtain ⟨rfl, rfl, M11⟩ := hcut
    clear x0 x1 x2 x3 x4 k9
    replace k3 := k3.kept M11
    replace LW := LW.trans (M11.mono LW.size)
    clear M11
    have x0 := k3.cell 0
    have x1 := k3.cell 1
    have x2 := k3.cell 2
    have x3 := k3.cell 3
    have x4 := k3.cell 4
    simp at x0 x1 x2 x3 x4
    go_wp2_with (go_at_call 11; refine (ck.out _ LW).mono ?_; rintro e w1 ⟨rfl, hb1⟩)
    go_ret
    exact ⟨rfl, Below.after LW hb1 LW.size⟩

end Go.Proofs.YtmleipmilmeclaaDoor
