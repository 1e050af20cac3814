/- Walks: Depth, Nodes, List; a binary search over two keys, Get; Points of one code point, Len. -/
import Derived.Test.YtmleipmilmeclaaDoorXTf
import Derived.Test.YtmleipmilmeclaaDoorXVm
namespace Go.Proofs.YtmleipmilmeclaaDoor
open Go.RowKit
attribute [local go_sem ↓] Go.wp_at_zero Go.wp_at_succ

/-- What a tree's nodes make its depth. -/
def depI (l : List (Int × Int × Bool)) : Int := l.foldl (fun d x => if x.2.1 = 5 ∨ x.2.1 = 6 then max d (x.1 + 1) else d) 0

theorem dep_info {n₀ : Nat} {w : World} (L : List (Node n₀ w)) : dep L = depI (L.map infoN) := by
  unfold dep depI
  rw [List.foldl_map]
  rfl

theorem measure_lay {W : World} {h : Nat} {v : V5} {t : T} (hl : Lay W h v t) (hh : h < 1099511627776) (hg : Gl W) (hr : RightT h t) (W' : World) (hb : Below W.heap.size W W') :
    Calls Tryd.prog 54 #[v.v] W' fun e w' => e = .returned (.tuple #[.int .i64 (depI (preT h 0 t)), .int .i64 (preT h 0 t).length, .bool true]) ∧ Below W'.heap.size W' w' := by
  obtain ⟨L, hp, hm⟩ := pre_of_lay hg h 0 v t (by omega) (by omega) hl
  refine (measure_any v W W' hb L h (by omega) (hp.below hb)).mono ?_
  rintro e w' ⟨⟨d, m, b, rfl, hb1, hb2⟩, hbw⟩
  have hg2 := hb1.2 ((good_iff L h t hm).2 hr)
  obtain ⟨rfl, rfl⟩ := hb2 hg2
  subst hg2
  refine ⟨?_, hbw⟩
  rw [dep_info, hm, ← List.length_map (f := infoN), hm]

set_option maxHeartbeats 1000000 in
theorem depth_lay {W : World} {h : Nat} {v : V5} {t : T} (hl : Lay W h v t) (hh : h < 1099511627776) (hg : Gl W) (hr : RightT h t) :
    Calls Tryd.prog 33 #[v.v] W fun e w' => e = .returned (.int .i64 (depI (preT h 0 t))) ∧ Below W.heap.size W w' := by
  have hc := Lib.hid (fun W' hb => measure_lay hl hh hg hr W' hb)
  generalize depI (preT h 0 t) = d at *
  generalize ((preT h 0 t).length : Int) = m at *
  clear hl hr
  obtain ⟨vk, vn, vs, vp, vnp, vcp, vq, vnq, vcq⟩ := v
  simp only [V5.v, V5.cs] at hc ⊢
  go_enter Tryd.func33, Tryd.ntmps33
  go_wp2_with (go_at_call 54; refine (hc.out _ (by go_grown)).mono ?_; rintro e w1 ⟨rfl, hb1⟩)
  go_ret
  exact ⟨rfl, Below.after (by go_grown) hb1 (by go_size)⟩

set_option maxHeartbeats 1000000 in
theorem nodes_lay {W : World} {h : Nat} {v : V5} {t : T} (hl : Lay W h v t) (hh : h < 1099511627776) (hg : Gl W) (hr : RightT h t) :
    Calls Tryd.prog 34 #[v.v] W fun e w' => e = .returned (.int .i64 (preT h 0 t).length) ∧ Below W.heap.size W w' := by
  have hc := Lib.hid (fun W' hb => measure_lay hl hh hg hr W' hb)
  generalize depI (preT h 0 t) = d at *
  generalize ((preT h 0 t).length : Int) = m at *
  clear hl hr
  obtain ⟨vk, vn, vs, vp, vnp, vcp, vq, vnq, vcq⟩ := v
  simp only [V5.v, V5.cs] at hc ⊢
  go_enter Tryd.func34, Tryd.ntmps34
  go_wp2_with (go_at_call 54; refine (hc.out _ (by go_grown)).mono ?_; rintro e w1 ⟨rfl, hb1⟩)
  go_ret
  exact ⟨rfl, Below.after (by go_grown) hb1 (by go_size)⟩

theorem isNaN91 (x : ByteArray) (w : World) : Calls Tryd.prog 63 #[.string x] w fun e w' => e = .returned (.bool false) ∧ w' = w := by
  go_enter Tryd.func63, Tryd.ntmps63
  go_wp2_with fail
  go_ret
  exact ⟨rfl, rfl⟩

set_option maxHeartbeats 1000000 in
theorem less_any (x y : ByteArray) (w : World) : Calls Tryd.prog 91 #[.string x, .string y] w fun e w' => e = .returned (.bool (Op.bytesLess x.toList y.toList)) ∧ w' = w := by
  have hx := Lib.hid (isNaN91 x)
  generalize h1 : Op.bytesLess x.toList y.toList = b1
  go_enter Tryd.func91, Tryd.ntmps91
  go_wp2_with (first | (go_at_call 63; refine (hx.out _).mono ?_; rintro e w1 ⟨rfl, rfl⟩))
  go_ret
  exact ⟨rfl, rfl⟩

end Go.Proofs.YtmleipmilmeclaaDoor

/- Walks: Points of one code point, Len; List. -/
namespace Go.Proofs.YtmleipmilmeclaaDoor
open Go.RowKit
attribute [local go_sem ↓] Go.wp_at_zero Go.wp_at_succ

set_option maxRecDepth 100000 in
set_option maxHeartbeats 1000000 in
theorem point_one (q : Int) (w : World) : Calls Tryd.prog 76 #[.slice none 0 0, .int .i64 q] w fun e w' => (∃ g cap, e = .returned (.slice (some ⟨g, 0, none⟩) 1 cap)) ∧ Below w.heap.size w w' := by
  obtain ⟨i0, hi, hz0, hz1, hz2⟩ := info_parts info3
  go_enter Tryd.func76, Tryd.ntmps76
  go_wp2_with (at_builtin; refine wpList_append_lies _ rfl (.tmp 5) (.tmp 7) 45 rfl w.heap.size 3 i0 _ 1 8 Tryd.underlying45 hi hz0 hz1 hz2 rfl (by decide) (.slice none 0 0) 0 [] rfl (World.ownsRow_nil _ _ _ _) ⟨w.heap.size, 0, none⟩ 1 1 [.int .i64 q] rfl rfl (World.news_of_block (Blk.new _ _ _)) (by simp [Value.oneCell']) (by decide) (by unfold maxLen; omega) (by omega) (by go_size) (w.heap.size + 1) (by simp) ?_; intro g1 cap1 wa hown1 hgrow1 hat1 hlt1)
  go_ret
  exact ⟨⟨_, _, rfl⟩, Below.grown (by go_grown) hgrow1 (by go_size) (fun b hb => by cases hb)⟩

set_option maxRecDepth 100000 in
set_option maxHeartbeats 4000000 in
/-- A text that is one code point. -/
theorem through_one (s : ByteArray) (hs : s.size < 4611686018427387904) (q : Int) (hq : nextP (bytesL s) = (q, (s.size : Int))) (h0 : 0 < s.size) (w : World) (hg : Gl w) :
    Calls Tryd.prog 75 #[.string s, .slice none 0 0, .func (.func 76) #[] #[]] w fun e w' => (∃ g cap, e = .returned (.tuple #[.slice (some ⟨g, 0, none⟩) 1 cap, .int .i64 0, .int .i64 0])) ∧ Below w.heap.size w w' := by
  obtain ⟨cap, W, hcv, hcap, hbW, hlW, hBs⟩ := conv_any s w
  have hgW := hg.below hbW hg.lt hbW.size
  have hlen := bytesL_len s
  have hby := bytesL_byte s
  generalize bytesL s = L at *
  generalize s.size = n at *
  have hcap' : (n : Int) ≤ cap := by omega
  clear hg
  obtain ⟨x, L', hd⟩ : ∃ x L', L = x :: L' := by
    cases h : L with
    | nil => rw [h] at hlen; simp at hlen; omega
    | cons x L' => exact ⟨x, L', rfl⟩
  subst hd
  have hl' : L'.length + 1 = n := by simpa using hlen
  have hnx := Lib.hid (fun wr (hbw : Below W.heap.size W wr) => next_any w.heap.size 0 cap x L' (by omega) hby wr (hBs.below hbw hlW) (by have := hbw.size; omega) (hgW.below hbw hgW.lt hbw.size))
  rw [hl', hq] at hnx
  have hnz : (n : Int) ≠ 0 := by omega
  clear hq hby hBs hgW
  go_enter Tryd.func75, Tryd.ntmps75
  go_wp2_with fail
  go_loopw [10, 1] (fun i a wr => Below W.heap.size W wr ∧ ((i = .int .i64 0 ∧ a = .slice none 0 0) ∨ (i = .int .i64 (n : Int) ∧ ∃ g cap, a = .slice (some ⟨g, 0, none⟩) 1 cap))) (fun i _ _ => n - (intOf i).toNat)
  case atStart => exact ⟨Below.refl _ _, .inl ⟨rfl, rfl⟩⟩
  case round =>
    obtain ⟨hbw, hrel⟩ := hrel
    have z2 := hbw.size
    rcases hrel with ⟨rfl, rfl⟩ | ⟨rfl, g, cap', rfl⟩
    · go_wp2_with (first
        | (go_at_call 93; refine (hnx.out _ hbw).mono ?_; rintro e w1 ⟨rfl, hb1⟩; have z1 := hb1.size)
        | (go_at_call 76; refine (point_one _ _).mono ?_; rintro e w2 ⟨⟨g, cap', rfl⟩, hb2⟩))
      exact ⟨⟨Below.after (Below.after hbw hb1 (by omega)) hb2 (by omega), .inr ⟨by simp, g, cap', rfl⟩⟩, by simp [intOf]; omega⟩
    · have hnn : ¬((n : Int) < (n : Int)) := by omega
      go_wp2_with fail
      exact bodyPost_ret (v := .tuple #[.slice (some ⟨g, 0, none⟩) 1 cap', .int .i64 0, .int .i64 0]) (by simp [results, Tryd.results75, go_sem]) rfl ⟨⟨_, _, rfl⟩, hbW.trans (hbw.mono (by omega))⟩

set_option maxHeartbeats 1000000 in
theorem points_one (s : ByteArray) (hs : s.size < 4611686018427387904) (q : Int) (hq : nextP (bytesL s) = (q, (s.size : Int))) (h0 : 0 < s.size) (w : World) (hg : Gl w) :
    Calls Tryd.prog 60 #[.string s] w fun e w' => (∃ g cap, e = .returned (.tuple #[.slice (some ⟨g, 0, none⟩) 1 cap, .int .i64 0, .int .i64 0])) ∧ Below w.heap.size w w' := by
  have hc := Lib.hid (through_one s hs q hq h0 w hg)
  clear hq hg
  go_enter Tryd.func60, Tryd.ntmps60
  go_wp2_with (go_at_call 75; refine hc.out.mono ?_; rintro e w1 ⟨⟨g, cap, rfl⟩, hb1⟩)
  exact bodyPost_ret (v := .tuple #[.slice (some ⟨g, 0, none⟩) 1 cap, .int .i64 0, .int .i64 0]) (by simp [results, Tryd.results60, go_sem]) rfl ⟨⟨_, _, rfl⟩, hb1⟩

set_option maxHeartbeats 4000000 in
theorem len_one (s : ByteArray) (hs : s.size < 1099511627776) (q : Int) (hq : nextP (bytesL s) = (q, (s.size : Int))) (h0 : 0 < s.size) (hv : vld (bytesL s) = true) (W : World) (hg : Gl W) :
    Calls Tryd.prog 36 #[(leaf5 4 0 s).v] W fun e w' => e = .returned (.tuple #[.int .i64 1, .bool true]) ∧ Below W.heap.size W w' := by
  have e : rightT 1 (.mk 4 0 s [] []) = true := by
    rw [rightT_iff, rightT_leaf _ _ _ (by omega)]
    unfold Al
    simp [T.k, T.n, T.s, T.ks, T.kids, hv]
  have hr := Lib.hid (fun W' (hb : Below W.heap.size W W') => right_lay (leaf_lay W' 4 0 s hs) (by omega) (hg.below hb hg.lt hb.size))
  rw [e] at hr
  have hp := Lib.hid (fun W' (hb : Below W.heap.size W W') => points_one s (by omega) q hq h0 W' (hg.below hb hg.lt hb.size))
  have k1 := Blk.new W (leaf5 4 0 s).cs 39
  simp only [V5.v, V5.cs] at hr k1 ⊢
  clear hq hg hv e
  go_enter Tryd.func36, Tryd.ntmps36
  go_wp2_with (first
    | (go_at_call 31; refine (hr.out _ (by go_grown)).mono ?_; rintro e w1 ⟨rfl, hb1⟩; have hbw := Below.after (show Below W.heap.size W _ from by go_grown) hb1 (by go_size); have kk := k1.kept hb1; have x0 := kk.cell 0; have x2 := kk.cell 2; simp at x0 x2; have z1 := hb1.size; simp only [World.size_alloc] at z1)
    | (go_at_call 59; refine (holds_any _ _).mono ?_; rintro e w2 ⟨rfl, rfl⟩)
    | (go_at_call 60; refine (hp.out _ hbw).mono ?_; rintro e w3 ⟨⟨g, cap, rfl⟩, hb3⟩))
  exact bodyPost_ret (v := .tuple #[.int .i64 1, .bool true]) (by simp [results, Tryd.results36, go_sem]) rfl ⟨rfl, Below.after hbw hb3 (by omega)⟩

set_option maxRecDepth 100000 in
set_option maxHeartbeats 1000000 in
/-- A list of values that lie. -/
theorem list_lay {W : World} {h : Nat} {tr : V5 → T} (ad : Addr) (c : Nat) (vs : List V5) (n : Nat) (hn : vs.length = n) (hl : Lies W 5 (some ad) n (vs.flatMap c5)) (hv : ∀ x ∈ vs, Lay W h x (tr x))
    (hnb : n < 1073741824) (hh : h + 1 < 1099511627776) (hg : Gl W) :
    Calls Tryd.prog 20 #[.slice (some ad) n c] W fun e w' => ((rightT (h + 1) (.mk 5 0 ⟨#[]⟩ [] (vs.map tr)) = true ∧ ∃ v, e = .returned (.tuple #[v.v, .int .i64 0]) ∧ Lay w' (h + 1) v (.mk 5 0 ⟨#[]⟩ [] (vs.map tr))) ∨
      (rightT (h + 1) (.mk 5 0 ⟨#[]⟩ [] (vs.map tr)) = false ∧ e = .returned (.tuple #[zero5.v, .int .i64 140]))) ∧ Below W.heap.size W w' := by
  have hclone := Lib.hid (fun W' (hb : Below W.heap.size W W') => cloneKids_any W' ad n c (vs.flatMap c5) (hl.below hb) (fun u hu => by obtain ⟨x, _, hx⟩ := List.mem_flatMap.1 hu; exact c5_one x u hx) (by omega))
  have hv' := Lib.hid hv
  have hg' := Lib.hid hg
  clear hl hv
  have hlist : ∀ (w : World) (B g cap : Nat), Below W.heap.size W w → w.ownsRow B 39 5 (.slice (some ⟨g, 0, none⟩) n cap) n (vs.flatMap c5) → Lay w (h + 1) ⟨5, 0, ⟨#[]⟩, some ⟨g, 0, none⟩, n, cap, none, 0, 0⟩ (.mk 5 0 ⟨#[]⟩ [] (vs.map tr)) := by
    intro w B g cap hb ho
    refine ⟨⟨rfl, rfl, rfl, rfl, by simp [T.kids, hn], ?_, ?_, ?_, ?_⟩, .inl rfl, .inr ⟨g, 0, rfl, (own_lt ho (b := g) rfl).2, fun i hi => ?_⟩⟩
    · simp only [T.s]; decide
    · intro x hx; simp [T.ks] at hx
    · simp [T.ks]
    · simp only [T.kids, List.length_map]; omega
    · simp only [T.kids, List.length_map] at hi
      have hc : ∀ j, j < 5 → w.cell? ⟨g, 0 + i * 5 + j, none⟩ = (c5 vs[i])[j]? := fun j hj => by
        rw [Nat.zero_add, ho.cellAt (i * 5 + j) (by omega)]
        exact flat_get' c5 5 c5_len vs i hi j hj
      refine ⟨vs[i], ⟨hc 0 (by omega), hc 1 (by omega), hc 2 (by omega), hc 3 (by omega), hc 4 (by omega)⟩, ?_⟩
      have := (hv'.out vs[i] (List.getElem_mem hi)).below hb
      simpa [T.kids] using this
  have hlist' := Lib.hid hlist
  clear hlist
  generalize hR : rightT (h + 1) (.mk 5 0 ⟨#[]⟩ [] (vs.map tr)) = r
  have hwh := Lib.hid (fun (w : World) (B g cap : Nat) (hb : Below W.heap.size W w) ho => whole_lay (hlist'.out w B g cap hb ho) hh (hg'.out.below hb hg'.out.lt hb.size))
  rw [hR] at hwh
  have hR' := Lib.hid hR
  clear hR
  have hglt := hg.lt
  clear hg
  have rb0 := Blk.new W zero5.cs 39
  simp only [V5.v, V5.cs] at hwh rb0 ⊢
  cases r
  all_goals
    simp only [Bool.false_eq_true, if_false, if_true] at hwh
    go_enter Tryd.func20, Tryd.ntmps20
    go_wp2_with (first
      | (go_at_call 44; refine (hclone.out _ (by go_grown)).mono ?_; rintro e w1 ⟨g, cap, rfl, hown, hb1⟩; have hb1' : Below W.heap.size W w1 := Below.after (by go_grown) hb1 (by go_size); have rb1 := rb0.kept hb1; have hown' := Lib.hid hown; have zw1 := hb1.size; simp only [World.size_alloc] at zw1; clear hown)
      | (go_at_call 37; refine (hwh.out _ _ _ _ hb1' hown'.out).mono ?_; rintro e w3 ⟨rfl, hb3⟩; have rb3 := rb1.kept hb3; have r0 := rb3.cell 0; have r1 := rb3.cell 1; have r2 := rb3.cell 2; have r3 := rb3.cell 3; have r4 := rb3.cell 4; have f0 := rb3.frozen 0; have f1 := rb3.frozen 1; have f2 := rb3.frozen 2; have f3 := rb3.frozen 3; have f4 := rb3.frozen 4; simp at r0 r1 r2 r3 r4))
    have hbW3 : Below W.heap.size W w3 := hb1'.trans (hb3.mono (by omega))
    have zw3 := hb3.size
  · refine bodyPost_ret (v := .tuple #[zero5.v, .int .i64 140]) (by simp [results, Tryd.results20, go_sem, *]) rfl ⟨.inr ⟨trivial, rfl⟩, ?_⟩
    exact Below.set (Below.set (Below.set (Below.set (Below.set hbW3 (by omega) _) (by omega) _) (by omega) _) (by omega) _) (by omega) _
  · have hbf : ∀ u0 u1 u2 u3 u4, Below W.heap.size W (((((w3.setCell ⟨W.heap.size, 0, none⟩ u0).setCell ⟨W.heap.size, 1, none⟩ u1).setCell ⟨W.heap.size, 2, none⟩ u2).setCell ⟨W.heap.size, 3, none⟩ u3).setCell ⟨W.heap.size, 4, none⟩ u4) := fun u0 u1 u2 u3 u4 =>
      Below.set (Below.set (Below.set (Below.set (Below.set hbW3 (by omega) _) (by omega) _) (by omega) _) (by omega) _) (by omega) _
    refine bodyPost_ret (v := .tuple #[.agg #[.int .i64 5, .int .i64 0, .string ⟨#[]⟩, .slice (some ⟨g, 0, none⟩) n cap, .slice none 0 0], .int .i64 0]) (by simp [results, Tryd.results20, go_sem, *]) rfl ⟨.inl ⟨trivial, ⟨5, 0, ⟨#[]⟩, some ⟨g, 0, none⟩, n, cap, none, 0, 0⟩, rfl, ?_⟩, hbf _ _ _ _ _⟩
    have hne : ∀ o (u : Value) (w : World), w.ownsRow (W.heap.size + 1) 39 5 (.slice (some ⟨g, 0, none⟩) n cap) n (vs.flatMap c5) → (w.setCell ⟨W.heap.size, o, none⟩ u).ownsRow (W.heap.size + 1) 39 5 (.slice (some ⟨g, 0, none⟩) n cap) n (vs.flatMap c5) := fun o u w ho =>
      ho.kept (grownBy_set w _ o u) (.inr fun e => by
        have := (own_lt ho (b := g) rfl).1
        simp only [Value.ownBlock, Option.some.injEq] at e
        omega)
    have ho : w3.ownsRow (W.heap.size + 1) 39 5 (.slice (some ⟨g, 0, none⟩) n cap) n (vs.flatMap c5) := by
      have := own_after hown'.out hb3
      simpa using this
    exact hlist'.out _ _ g cap (hbf _ _ _ _ _) (hne _ _ _ (hne _ _ _ (hne _ _ _ (hne _ _ _ (hne _ _ _ ho)))))

end Go.Proofs.YtmleipmilmeclaaDoor
