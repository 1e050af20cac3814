/- Walks: the reference's Same, of equal trees; Zero. -/
import Derived.Test.YtmleipmilmeclaaDoorXVl
namespace Go.Proofs.YtmleipmilmeclaaDoor
open Go.RowKit
attribute [local go_sem ↓] Go.wp_at_zero Go.wp_at_succ

set_option maxHeartbeats 1000000 in
/-- Two values that lie as one tree: one, if it is right. -/
theorem same_lay {W : World} {h : Nat} {v v' : V5} {t : T} (hl : Lay W h v t) (hl' : Lay W h v' t) (hr : RightT h t) :
    Calls Tryd.prog 16 #[v.v, v'.v] W fun e w' => e = .returned (.bool true) ∧ Below W.heap.size W w' := by
  have hal := allAl_of h 0 t hl.ht hr.2.2
  have e := (rightT_iff h t).2 hr
  have h1 := fun W' (hb : Below W.heap.size W W') => rright_any (hl.below hb)
  have h2 := fun W' (hb : Below W.heap.size W W') => rright_any (hl'.below hb)
  have h3 := fun W' (hb : Below W.heap.size W W') => one_any h W' v v' t (hl.below hb) (hl'.below hb) hal
  rw [e] at h1 h2
  have c1 := Lib.hid h1
  have c2 := Lib.hid h2
  have c3 := Lib.hid h3
  clear h1 h2 h3 e hal hr hl hl'
  obtain ⟨vk, vn, vs, vp, vnp, vcp, vq, vnq, vcq⟩ := v
  obtain ⟨vk', vn', vs', vp', vnp', vcp', vq', vnq', vcq'⟩ := v'
  simp only [V5.v, V5.cs] at c1 c2 c3 ⊢
  have ka := (Blk.new W #[.int .i64 vk, .int .i64 vn, .string vs, .slice vp vnp vcp, .slice vq vnq vcq] 39).alloc (.cells #[.int .i64 vk', .int .i64 vn', .string vs', .slice vp' vnp' vcp', .slice vq' vnq' vcq'] 39)
  have kb : Blk ((W.alloc (.cells #[.int .i64 vk, .int .i64 vn, .string vs, .slice vp vnp vcp, .slice vq vnq vcq] 39)).alloc (.cells #[.int .i64 vk', .int .i64 vn', .string vs', .slice vp' vnp' vcp', .slice vq' vnq' vcq'] 39)) (W.heap.size + 1) #[.int .i64 vk', .int .i64 vn', .string vs', .slice vp' vnp' vcp', .slice vq' vnq' vcq'] 39 := Blk.new' (by go_size)
  go_enter Tryd.func16, Tryd.ntmps16
  go_wp2_with (first
    | (go_at_call_of 21 vk; refine (c1.out _ (by go_grown)).mono ?_; rintro e w1 ⟨rfl, hb1⟩; (have hbw1 : Below W.heap.size W w1 := Below.after (by go_grown) hb1 (by go_size)); (have ka1 := ka.kept hb1); (have kb1 := kb.kept hb1); (have x0 := kb1.cell 0); (have x1 := kb1.cell 1); (have x2 := kb1.cell 2); (have x3 := kb1.cell 3); (have x4 := kb1.cell 4); (simp at x0 x1 x2 x3 x4))
    | (go_at_call_of 21 vk'; refine (c2.out _ hbw1).mono ?_; rintro e w2 ⟨rfl, hb2⟩; (have hbw2 : Below W.heap.size W w2 := Below.after hbw1 hb2 hbw1.size); clear x0 x1 x2 x3 x4; (have ka2 := ka1.kept hb2); (have kb2 := kb1.kept hb2); (have x0 := kb2.cell 0); (have x1 := kb2.cell 1); (have x2 := kb2.cell 2); (have x3 := kb2.cell 3); (have x4 := kb2.cell 4); (have y0 := ka2.cell 0); (have y1 := ka2.cell 1); (have y2 := ka2.cell 2); (have y3 := ka2.cell 3); (have y4 := ka2.cell 4); (simp at x0 x1 x2 x3 x4 y0 y1 y2 y3 y4))
    | (go_at_call 39; refine (c3.out _ hbw2).mono ?_; rintro e w3 ⟨rfl, hb3⟩))
  go_ret
  exact ⟨rfl, Below.after hbw2 hb3 hbw2.size⟩

end Go.Proofs.YtmleipmilmeclaaDoor

/- Walks: Null, Int, Bool, Zero, told, Check, whole, Text. -/
namespace Go.Proofs.YtmleipmilmeclaaDoor
open Go.RowKit
attribute [local go_sem ↓] Go.wp_at_zero Go.wp_at_succ

abbrev leaf5 (k n : Int) (s : ByteArray) : V5 := ⟨k, n, s, none, 0, 0, none, 0, 0⟩
abbrev zero5 : V5 := leaf5 0 0 ⟨#[]⟩

theorem vnull_any (W : World) : Calls Tryd.prog 23 #[] W fun e w' => e = .returned (leaf5 1 0 ⟨#[]⟩).v ∧ Below W.heap.size W w' := by
  simp only [V5.v, V5.cs]
  go_enter Tryd.func23, Tryd.ntmps23
  go_wp2_with fail
  exact bodyPost_ret (v := (leaf5 1 0 ⟨#[]⟩).v) (by simp [results, Tryd.results23, go_sem]) rfl ⟨rfl, by go_grown⟩

theorem vint_any (n : Int) (W : World) : Calls Tryd.prog 24 #[.int .i64 n] W fun e w' => e = .returned (leaf5 3 n ⟨#[]⟩).v ∧ Below W.heap.size W w' := by
  simp only [V5.v, V5.cs]
  go_enter Tryd.func24, Tryd.ntmps24
  go_wp2_with fail
  exact bodyPost_ret (v := (leaf5 3 n ⟨#[]⟩).v) (by simp [results, Tryd.results24, go_sem]) rfl ⟨rfl, by go_grown⟩

theorem vbool_any (b : Bool) (W : World) : Calls Tryd.prog 22 #[.bool b] W fun e w' => e = .returned (leaf5 2 (if b then 1 else 0) ⟨#[]⟩).v ∧ Below W.heap.size W w' := by
  simp only [V5.v, V5.cs]
  cases b
  · go_enter Tryd.func22, Tryd.ntmps22
    go_wp2_with fail
    exact bodyPost_ret (v := (leaf5 2 0 ⟨#[]⟩).v) (by simp [results, Tryd.results22, go_sem]) rfl ⟨rfl, by go_grown⟩
  · go_enter Tryd.func22, Tryd.ntmps22
    go_wp2_with fail
    exact bodyPost_ret (v := (leaf5 2 1 ⟨#[]⟩).v) (by simp [results, Tryd.results22, go_sem]) rfl ⟨rfl, by go_grown⟩

theorem zero_any (W : World) : Calls Tryd.prog 15 #[zero5.v] W fun e w' => e = .returned (.bool true) ∧ Below W.heap.size W w' := by
  simp only [V5.v, V5.cs]
  go_enter Tryd.func15, Tryd.ntmps15
  go_wp2_with fail
  all_goals go_ret
  all_goals exact ⟨rfl, by go_grown⟩

theorem told_no (u : V5) (W : World) : Calls Tryd.prog 19 #[zero5.v, .bool false, u.v, .bool false] W fun e w' => e = .returned (.bool true) ∧ Below W.heap.size W w' := by
  have hz := Lib.hid zero_any
  obtain ⟨vk, vn, vs, vp, vnp, vcp, vq, vnq, vcq⟩ := u
  simp only [V5.v, V5.cs] at hz ⊢
  go_enter Tryd.func19, Tryd.ntmps19
  go_wp2_with (first | (go_at_call 15; refine (hz.out _).mono ?_; rintro e w1 ⟨rfl, hb1⟩))
  all_goals go_ret
  all_goals exact ⟨rfl, Below.after (by go_grown) hb1 (by go_size)⟩

theorem told_yes {W : World} {h : Nat} {v v' : V5} {t : T} (hl : Lay W h v t) (hl' : Lay W h v' t) (hr : RightT h t) :
    Calls Tryd.prog 19 #[v.v, .bool true, v'.v, .bool true] W fun e w' => e = .returned (.bool true) ∧ Below W.heap.size W w' := by
  have hc := Lib.hid (fun W' (hb : Below W.heap.size W W') => same_lay (hl.below hb) (hl'.below hb) hr)
  clear hl hl'
  obtain ⟨vk, vn, vs, vp, vnp, vcp, vq, vnq, vcq⟩ := v
  obtain ⟨vk', vn', vs', vp', vnp', vcp', vq', vnq', vcq'⟩ := v'
  simp only [V5.v, V5.cs] at hc ⊢
  go_enter Tryd.func19, Tryd.ntmps19
  go_wp2_with (first | (go_at_call 16; refine (hc.out _ (by go_grown)).mono ?_; rintro e w1 ⟨rfl, hb1⟩))
  all_goals go_ret
  all_goals exact ⟨rfl, Below.after (by go_grown) hb1 (by go_size)⟩

/-- What whole tells of a value that lies. -/
theorem check_lay {W : World} {h : Nat} {v : V5} {t : T} (hl : Lay W h v t) (hh : h < 1099511627776) (hg : Gl W) :
    Calls Tryd.prog 11 #[v.v] W fun e w' => e = .returned (.int .i64 (if rightT h t then 0 else 140)) ∧ Below W.heap.size W w' := by
  have hc := Lib.hid (fun W' (hb : Below W.heap.size W W') => right_lay (hl.below hb) hh (hg.below hb hg.lt hb.size))
  generalize rightT h t = r at *
  clear hl
  obtain ⟨vk, vn, vs, vp, vnp, vcp, vq, vnq, vcq⟩ := v
  simp only [V5.v, V5.cs] at hc ⊢
  cases r
  · go_enter Tryd.func11, Tryd.ntmps11
    go_wp2_with (go_at_call 31; refine (hc.out _ (by go_grown)).mono ?_; rintro e w1 ⟨rfl, hb1⟩)
    go_ret
    exact ⟨rfl, Below.after (by go_grown) hb1 (by go_size)⟩
  · go_enter Tryd.func11, Tryd.ntmps11
    go_wp2_with (go_at_call 31; refine (hc.out _ (by go_grown)).mono ?_; rintro e w1 ⟨rfl, hb1⟩)
    go_ret
    exact ⟨rfl, Below.after (by go_grown) hb1 (by go_size)⟩

theorem whole_lay {W : World} {h : Nat} {v : V5} {t : T} (hl : Lay W h v t) (hh : h < 1099511627776) (hg : Gl W) :
    Calls Tryd.prog 37 #[v.v] W fun e w' => e = .returned (.tuple (if rightT h t then #[v.v, .int .i64 0] else #[zero5.v, .int .i64 140])) ∧ Below W.heap.size W w' := by
  have hc := Lib.hid (fun W' (hb : Below W.heap.size W W') => check_lay (hl.below hb) hh (hg.below hb hg.lt hb.size))
  generalize rightT h t = r at *
  clear hl
  obtain ⟨vk, vn, vs, vp, vnp, vcp, vq, vnq, vcq⟩ := v
  simp only [V5.v, V5.cs] at hc ⊢
  have ka := (Blk.new W #[.int .i64 vk, .int .i64 vn, .string vs, .slice vp vnp vcp, .slice vq vnq vcq] 39).alloc (.cells zero5.cs 39)
  have kb : Blk ((W.alloc (.cells #[.int .i64 vk, .int .i64 vn, .string vs, .slice vp vnp vcp, .slice vq vnq vcq] 39)).alloc (.cells zero5.cs 39)) (W.heap.size + 1) zero5.cs 39 := Blk.new' (by go_size)
  cases r
  · go_enter Tryd.func37, Tryd.ntmps37
    go_wp2_with (go_at_call 11; refine (hc.out _ (by go_grown)).mono ?_; rintro e w1 ⟨rfl, hb1⟩; (have hbw1 : Below W.heap.size W w1 := Below.after (by go_grown) hb1 (by go_size)); (have ka1 := ka.kept hb1); (have kb1 := kb.kept hb1); (have la := ka1.lt); (have lb := kb1.lt); (have x0 := ka1.cell 0); (have y0 := kb1.cell 0); (have f0 := kb1.frozen 0); (have x1 := ka1.cell 1); (have y1 := kb1.cell 1); (have f1 := kb1.frozen 1); (have x2 := ka1.cell 2); (have y2 := kb1.cell 2); (have f2 := kb1.frozen 2); (have x3 := ka1.cell 3); (have y3 := kb1.cell 3); (have f3 := kb1.frozen 3); (have x4 := ka1.cell 4); (have y4 := kb1.cell 4); (have f4 := kb1.frozen 4); (simp at x0 y0 x1 y1 x2 y2 x3 y3 x4 y4))
    refine bodyPost_ret (v := .tuple #[zero5.v, .int .i64 140]) (by simp [results, Tryd.results37, go_sem, *]) rfl ⟨rfl, ?_⟩
    exact Below.set (Below.set (Below.set (Below.set (Below.set hbw1 (by omega) _) (by omega) _) (by omega) _) (by omega) _) (by omega) _
  · go_enter Tryd.func37, Tryd.ntmps37
    go_wp2_with (go_at_call 11; refine (hc.out _ (by go_grown)).mono ?_; rintro e w1 ⟨rfl, hb1⟩; (have hbw1 : Below W.heap.size W w1 := Below.after (by go_grown) hb1 (by go_size)); (have ka1 := ka.kept hb1); (have kb1 := kb.kept hb1); (have la := ka1.lt); (have lb := kb1.lt); (have x0 := ka1.cell 0); (have y0 := kb1.cell 0); (have f0 := kb1.frozen 0); (have x1 := ka1.cell 1); (have y1 := kb1.cell 1); (have f1 := kb1.frozen 1); (have x2 := ka1.cell 2); (have y2 := kb1.cell 2); (have f2 := kb1.frozen 2); (have x3 := ka1.cell 3); (have y3 := kb1.cell 3); (have f3 := kb1.frozen 3); (have x4 := ka1.cell 4); (have y4 := kb1.cell 4); (have f4 := kb1.frozen 4); (simp at x0 y0 x1 y1 x2 y2 x3 y3 x4 y4))
    refine bodyPost_ret (v := .tuple #[.agg #[.int .i64 vk, .int .i64 vn, .string vs, .slice vp vnp vcp, .slice vq vnq vcq], .int .i64 0]) (by simp [results, Tryd.results37, go_sem, *]) rfl ⟨rfl, ?_⟩
    exact Below.set (Below.set (Below.set (Below.set (Below.set hbw1 (by omega) _) (by omega) _) (by omega) _) (by omega) _) (by omega) _

theorem leaf_lay (W : World) (k n : Int) (s : ByteArray) (hs : s.size < 1099511627776) : Lay W 1 (leaf5 k n s) (.mk k n s [] []) :=
  ⟨⟨rfl, rfl, rfl, rfl, rfl, hs, fun _ h => by simp [T.ks] at h, by simp [T.ks], by simp [T.kids]⟩, .inl rfl, .inl rfl⟩

theorem rightT_leaf (k n : Int) (s : ByteArray) (_ : k < 5) : RightT 1 (.mk k n s [] []) ↔ Al (.mk k n s [] []) := by
  unfold RightT
  simp only [preT, T.kids, T.k, List.map_nil, List.flatten_nil, List.mem_singleton, forall_eq, al_iff, List.length_singleton]
  exact ⟨fun h => h.2.2, fun h => ⟨by omega, fun h => by omega, h⟩⟩

theorem vtext_any (s : ByteArray) (hs : s.size < 1099511627776) (W : World) (hg : Gl W) :
    Calls Tryd.prog 13 #[.string s] W fun e w' => e = .returned (.tuple (if vld (bytesL s) then #[(leaf5 4 0 s).v, .int .i64 0] else #[zero5.v, .int .i64 140])) ∧ Below W.heap.size W w' := by
  have hc := Lib.hid (fun W' (hb : Below W.heap.size W W') => whole_lay (leaf_lay W' 4 0 s hs) (by omega) (hg.below hb hg.lt hb.size))
  have e : rightT 1 (.mk 4 0 s [] []) = vld (bytesL s) := by
    rw [Bool.eq_iff_iff, rightT_iff, rightT_leaf _ _ _ (by omega)]
    unfold Al
    simp [T.k, T.n, T.s, T.ks, T.kids]
  rw [e] at hc
  generalize vld (bytesL s) = q at *
  simp only [V5.v, V5.cs] at hc ⊢
  have kb := Blk.new W zero5.cs 39
  cases q
  · go_enter Tryd.func13, Tryd.ntmps13
    go_wp2_with (go_at_call 37; refine (hc.out _ (by go_grown)).mono ?_; rintro e w1 ⟨rfl, hb1⟩; (have hbw1 : Below W.heap.size W w1 := Below.after (by go_grown) hb1 (by go_size)); (have kb1 := kb.kept hb1); (have lb := kb1.lt); (have y0 := kb1.cell 0); (have f0 := kb1.frozen 0); (have y1 := kb1.cell 1); (have f1 := kb1.frozen 1); (have y2 := kb1.cell 2); (have f2 := kb1.frozen 2); (have y3 := kb1.cell 3); (have f3 := kb1.frozen 3); (have y4 := kb1.cell 4); (have f4 := kb1.frozen 4); (simp at y0 y1 y2 y3 y4))
    refine bodyPost_ret (v := .tuple #[zero5.v, .int .i64 140]) (by simp [results, Tryd.results13, go_sem, *]) rfl ⟨rfl, ?_⟩
    exact Below.set (Below.set (Below.set (Below.set (Below.set hbw1 (by omega) _) (by omega) _) (by omega) _) (by omega) _) (by omega) _
  · go_enter Tryd.func13, Tryd.ntmps13
    go_wp2_with (go_at_call 37; refine (hc.out _ (by go_grown)).mono ?_; rintro e w1 ⟨rfl, hb1⟩; (have hbw1 : Below W.heap.size W w1 := Below.after (by go_grown) hb1 (by go_size)); (have kb1 := kb.kept hb1); (have lb := kb1.lt); (have y0 := kb1.cell 0); (have f0 := kb1.frozen 0); (have y1 := kb1.cell 1); (have f1 := kb1.frozen 1); (have y2 := kb1.cell 2); (have f2 := kb1.frozen 2); (have y3 := kb1.cell 3); (have f3 := kb1.frozen 3); (have y4 := kb1.cell 4); (have f4 := kb1.frozen 4); (simp at y0 y1 y2 y3 y4))
    refine bodyPost_ret (v := .tuple #[(leaf5 4 0 s).v, .int .i64 0]) (by simp [results, Tryd.results13, go_sem, *]) rfl ⟨rfl, ?_⟩
    exact Below.set (Below.set (Below.set (Below.set (Below.set hbw1 (by omega) _) (by omega) _) (by omega) _) (by omega) _) (by omega) _

end Go.Proofs.YtmleipmilmeclaaDoor
