/- Walk: stats. -/
import Derived.Test.YtmleipmilmeclaaDoorWr
import Derived.Deep.RegionLaw
namespace Go.Proofs.YtmleipmilmeclaaDoor
open Go.RowKit
attribute [local go_sem ↓] Go.wp_at_zero Go.wp_at_succ

abbrev kidC (x : Int × Int) : List Value := [.int .i64 x.1, .int .i64 x.2, .string ⟨#[]⟩, .slice none 0 0, .slice none 0 0]
def kidsC (l : List (Int × Int)) : List Value := l.flatMap kidC
def five (r : R) : List (Int × Int) := [(3, r.c), (kd r.i, nn r.i r.m), (kd r.i, nn r.i r.l), (3, r.i), (3, r.s)]
abbrev keysC : Array Value := #[.string { data := #[99, 111, 117, 110, 116] }, .string { data := #[109, 97, 120] }, .string { data := #[109, 105, 110] }, .string { data := #[110, 117, 109, 98, 101, 114, 115] }, .string { data := #[115, 117, 109] }]
theorem info39 : (Tryd.prog.info? 39).map (fun i => (i.zero, i.size, i.bytes)) = some (some (.agg #[.int .i64 0, .int .i64 0, .string ⟨#[]⟩, .slice none 0 0, .slice none 0 0]), 5, 80) := by kernel_rfl

structure StRel (w : World) (r : R) (e k : Nat) (v : Value) (wr : World) : Prop where
  b0 : w.heap.size + 1 < e
  k1 : Blk wr w.heap.size #[.int .i64 r.c, .int .i64 r.i, .int .i64 (hi r.s), .int .u64 (lo r.s), .int .i64 r.l, .int .i64 r.m] 30
  k2 : Blk wr (w.heap.size + 1) #[.int .i64 0, .int .i64 0, .string ⟨#[]⟩, .slice none 0 0, .slice none 0 0] 39
  k3 : Blk wr e kc0 99
  k4 : Blk wr (e + 1) keysC 9
  k5 : Blk wr (e + 1 + 1) #[.int .i64 6, .int .i64 0, .string ⟨#[]⟩, v, .slice (some ⟨e + 1, 0, none⟩) 5 5] 39
  k6 : Blk wr (e + 1 + 1 + 1) #[.int .i64 1, .int .i64 4, .int .i64 3, .int .i64 0, .int .i64 2] 3
  own : wr.ownsRow (e + 1 + 1 + 1 + 1) 39 5 v k (kidsC ((five r).take k))
  bl : Below w.heap.size w wr

theorem grownBy_set (w : World) (b o : Nat) (u : Value) : w.grownBy (w.setCell ⟨b, o, none⟩ u) (some b) :=
  ⟨rfl, rfl, rfl, by simp, fun k _ hk => Below.heap_setCell _ _ _ k (fun e => hk (by rw [e]))⟩
theorem Blk.grown {w w' : World} {b : Nat} {cs : Array Value} {T : TypeId} {row : Option Nat} (h : Blk w b cs T) (hg : w.grownBy w' row) (hne : some b ≠ row) : Blk w' b cs T := (hg.block b h.lt hne).trans h

theorem StRel.next {w wr wx wa : World} {r : R} {e k g cap : Nat} {v : Value} {t : Array Value} {T : TypeId} {x : Int × Int} (h : StRel w r e k v wr) (hbx : Below wr.heap.size wr wx)
    (hx : kidsC ((five r).take (k + 1)) = kidsC ((five r).take k) ++ kidC x)
    (hown : wa.ownsRow (e + 1 + 1 + 1 + 1) 39 5 (.slice (some ⟨g, 0, none⟩) (k + 1) cap) (k + 1) (kidsC ((five r).take k) ++ kidC x)) (hgrow : (wx.alloc (.cells t T)).grownBy wa v.ownBlock) :
    StRel w r e (k + 1) (.slice (some ⟨g, 0, none⟩) (k + 1) cap) (wa.setCell ⟨e + 1 + 1, 3, none⟩ (.slice (some ⟨g, 0, none⟩) (k + 1) cap)) := by
  have hne : ∀ b, b < e + 1 + 1 + 1 + 1 → some b ≠ v.ownBlock := fun b hb he => by
    have := (own_lt h.own he.symm).1
    omega
  have hg4 : e + 1 + 1 + 1 + 1 ≤ g := by
    have := (own_lt hown (b := g) rfl).1
    omega
  have b0 := h.b0
  have up : ∀ {b : Nat} {cs : Array Value} {U : TypeId}, b < e + 1 + 1 + 1 + 1 → b ≠ e + 1 + 1 → Blk wr b cs U → Blk (wa.setCell ⟨e + 1 + 1, 3, none⟩ (.slice (some ⟨g, 0, none⟩) (k + 1) cap)) b cs U := fun hb hn hk =>
    Blk.off (Blk.grown ((hk.kept hbx).alloc _) hgrow (hne _ hb)) _ hn
  refine ⟨b0, up (by omega) (by omega) h.k1, up (by omega) (by omega) h.k2, up (by omega) (by omega) h.k3, up (by omega) (by omega) h.k4, ?_, up (by omega) (by omega) h.k6, ?_, ?_⟩
  · exact Blk.set (Blk.grown ((h.k5.kept hbx).alloc _) hgrow (hne _ (by omega))) 3 _
  · rw [hx]
    refine hown.kept (row := some (e + 1 + 1)) (grownBy_set wa _ _ _) (.inr ?_)
    intro he
    have : g = e + 1 + 1 := by simpa [Value.ownBlock] using he
    omega
  · have hs := h.bl.size
    have hs2 := hbx.size
    refine Below.set (Below.grown (Below.alloc (Below.after h.bl hbx hs) (by omega) _) hgrow (by simp only [World.size_alloc]; omega) fun b hb => ?_) (by omega) _
    have := (own_lt h.own hb).1
    omega

theorem cell_off (w : World) (b o : Nat) (x : Value) (g j : Nat) (h : g ≠ b) : (w.setCell ⟨b, o, none⟩ x).cell? ⟨g, j, none⟩ = w.cell? ⟨g, j, none⟩ := by
  unfold World.cell?
  rw [Below.heap_setCell _ _ _ _ h]
theorem Blk.five {w : World} {b : Nat} {p0 p1 p2 p3 p4 : Value} {T : TypeId} (h : Blk w b #[p0, p1, p2, p3, p4] T) (x0 x1 x2 x3 x4 : Value) :
    Blk (((((w.setCell ⟨b, 0, none⟩ x0).setCell ⟨b, 1, none⟩ x1).setCell ⟨b, 2, none⟩ x2).setCell ⟨b, 3, none⟩ x3).setCell ⟨b, 4, none⟩ x4) b #[x0, x1, x2, x3, x4] T :=
  ((((h.set 0 x0).set 1 x1).set 2 x2).set 3 x3).set 4 x4
def StCut (wr : World) (x : Int × Int) (p e : Value) (wx : World) : Prop :=
  ∃ g, p = .pointer (some ⟨g, 0, none⟩) ∧ wr.heap.size ≤ g ∧ e = .int .i64 0 ∧ Blk wx g (kidC x).toArray 39 ∧ Below wr.heap.size wr wx

set_option maxRecDepth 100000 in
set_option maxHeartbeats 2000000 in
theorem stats_any (r : R) (hr : r.Num) (hs : I64 r.s) (w : World) :
    Calls Tryd.prog 53 #[rv r] w fun e w' => ∃ b g cap, e = .returned (.tuple #[.agg #[.int .i64 6, .int .i64 0, .string ⟨#[]⟩, .slice (some ⟨g, 0, none⟩) 5 cap, .slice (some ⟨b, 0, none⟩) 5 5], .int .i64 0]) ∧ 5 ≤ cap ∧ w.heap.size ≤ g ∧ w.heap.size ≤ b ∧
      Blk w' b keysC 9 ∧ (∀ j u, (kidsC (five r))[j]? = some u → w'.cell? ⟨g, j, none⟩ = some u) ∧ g < w'.heap.size ∧ Below w.heap.size w w' := by
  have q66 := Lib.hid (fun w => count_any r hr w)
  have q70 := Lib.hid (fun w => simple2_any r w)
  have q68 := Lib.hid (fun w => simple1_any r w)
  have q67 := Lib.hid (fun w => sums_yes r hs w)
  obtain ⟨i0, hin, hz0, hz1, hz2⟩ := info_parts info39
  clear hr hs
  simp only [rv] at q66 q70 q68 q67 ⊢
  go_enter Tryd.func53, Tryd.ntmps53
  go_wp2_with (go_at_call 52; refine (simple_any _).mono ?_; rintro e w1 ⟨rfl, hb1⟩; obtain ⟨hc1, hf1⟩ := bcell hb1; have z1 := hb1.size; simp only [World.size_alloc] at z1)
  go_loopw [15] (fun i wr => ∃ (k : Nat) (v : Value), i = .int .i64 (k : Int) ∧ k ≤ 5 ∧ StRel w r w1.heap.size k v wr) (fun i _ => 5 - (intOf i).toNat)
  case atStart =>
    refine ⟨0, .slice none 0 0, rfl, by omega, by omega, ?_, ?_, ?_, ?_, ?_, ?_, by simpa [kidsC, five] using World.ownsRow_nil _ _ _ _, ?_⟩
    all_goals repeat' (first | ((with_reducible refine Blk.new' ?_); first | rfl | (simp; done)) | (with_reducible refine Blk.alloc ?_ _) | (with_reducible refine Blk.drew ?_) | (with_reducible refine Blk.kept ?_ (by with_reducible assumption)) | (with_reducible exact Below.refl _ _) | (with_reducible refine Below.alloc ?_ (by go_size) _) | (with_reducible refine Below.after ?_ (by with_reducible assumption) (by go_size)))
  case round =>
    obtain ⟨k, v, rfl, hk, hrel⟩ := hrel
    have hst := Lib.hid hrel
    obtain ⟨b0, k1, k2, k3, k4, k5, k6, own, bl⟩ := hrel
    have hk5 : k = 0 ∨ k = 1 ∨ k = 2 ∨ k = 3 ∨ k = 4 ∨ k = 5 := by omega
    have l1 := k1.lt
    have l3 := k3.lt
    have l5 := k5.lt
    have l6 := k6.lt
    have a0 := k1.cell 0
    have a1 := k1.cell 1
    have a2 := k1.cell 2
    have a3 := k1.cell 3
    have a4 := k1.cell 4
    have a5 := k1.cell 5
    have m0 := k5.cell 0
    have m1 := k5.cell 1
    have m2 := k5.cell 2
    have m3 := k5.cell 3
    have m4 := k5.cell 4
    have n3 := k5.frozen 3
    simp at a0 a1 a2 a3 a4 a5 m0 m1 m2 m3 m4
    rcases hk5 with rfl | rfl | rfl | rfl | rfl | rfl
    · have e0 := k6.cell 0
      have g0 := k3.cell 3
      simp at e0 g0
      go_upto_region 8 with fail
      go_cut [8, 9] (fun p e wx => StCut wr (3, r.c) p e wx)
      case first =>
        have hS : Hold2 w.heap.size #[.int .i64 r.c, .int .i64 r.i, .int .i64 (hi r.s), .int .u64 (lo r.s), .int .i64 r.l, .int .i64 r.m] 30 w1.heap.size kc0 99 wr := Hold2.mk' k1 k3
        go_region_held3 (fun w' => Hold2 w.heap.size #[.int .i64 r.c, .int .i64 r.i, .int .i64 (hi r.s), .int .u64 (lo r.s), .int .i64 r.l, .int .i64 r.m] 30 w1.heap.size kc0 99 w')
          (first | ((with_reducible refine Hold2.off ?_ _ (by omega) (by omega)); (repeat (with_reducible refine Hold2.off ?_ _ (by omega) (by omega))); (with_reducible assumption)) | (with_reducible exact Hold2.drew hS) | (with_reducible exact Hold2.drew (Hold2.alloc hS _)) | (with_reducible exact Hold2.alloc (by assumption) _) | (with_reducible exact Hold2.kept (by assumption) hb2) | (with_reducible exact Hold2.other (by assumption) (by omega) (by omega) _) | (with_reducible assumption))
          (first | (go_at_call 66; refine (q66.out _).mono ?_; rintro e w2 ⟨rfl, hb2⟩; obtain ⟨hc2, hf2⟩ := bcell hb2; have z2 := hb2.size; simp only [World.size_drew, World.size_alloc] at hc2 hf2 z2; (have y2 : w.heap.size < w2.heap.size := by omega); (have y3 : w1.heap.size < w2.heap.size := by omega); (have y4 : wr.heap.size ≤ w2.heap.size := by omega)))
        all_goals (go_wp2_with fail; go_meet)
        all_goals
          refine ⟨_, rfl, by omega, rfl, ?_, ?_⟩
          · first | (with_reducible exact Blk.new _ _ _) | exact Blk.five (Blk.kept (Blk.drew (Blk.new wr _ _)) hb2) _ _ _ _ _
          · repeat' (first | (with_reducible exact Below.refl _ _) | (with_reducible refine Below.alloc ?_ (by go_size) _) | (with_reducible refine Below.drew ?_) | (with_reducible refine Below.set ?_ (by omega) _) | (with_reducible refine Below.after ?_ (by with_reducible assumption) (by go_size)))
      case rest =>
        obtain ⟨g, rfl, hg, rfl, g1, hbx⟩ := hcut
        have zx := hbx.size
        have kk5 := k5.kept hbx
        have m3' := kk5.cell 3
        have n3' := kk5.frozen 3
        have b0 := g1.cell 0
        have b1 := g1.cell 1
        have b2 := g1.cell 2
        have b3 := g1.cell 3
        have b4 := g1.cell 4
        have lg := g1.lt
        simp at m3' b0 b1 b2 b3 b4
        have own' := Lib.hid (own_after own hbx)
        have hne5 : some (w1.heap.size + 1 + 1) ≠ v.ownBlock := fun he => by
          have := (own_lt own he.symm).1
          omega
        clear own
        go_wp2_with (at_builtin; refine wpList_append_lies _ rfl (.tmp 44) (.tmp 46) 36 rfl (w1.heap.size + 1 + 1 + 1 + 1) 39 i0 _ 5 80 Tryd.underlying36 hin hz0 hz1 hz2 rfl (by decide) _ 0 _ rfl (own'.out.alloc _) ⟨wc.heap.size, 0, none⟩ 1 1 (kidC (3, r.c)) rfl rfl (World.news_of_block (Blk.new _ _ _)) (by simp [Value.oneCell']) (by decide) (by unfold maxLen; omega) (by omega) (by go_size) (wc.heap.size + 1) (by simp) ?_; intro g1 cap1 wa hown1 hgrow1 hat1 hlt1; have k5a := Blk.grown (kk5.alloc _) hgrow1 hne5; have m3a := k5a.cell 3; have n3a := k5a.frozen 3; simp at m3a)
        exact ⟨⟨1, _, rfl, by omega, StRel.next hst.out hbx rfl hown1 hgrow1⟩, by simp [intOf]⟩
    · have e0 := k6.cell 1
      have g0 := k3.cell 9
      simp at e0 g0
      go_upto_region 8 with fail
      go_cut [8, 9] (fun p e wx => StCut wr (kd r.i, nn r.i r.m) p e wx)
      case first =>
        have hS : Hold2 w.heap.size #[.int .i64 r.c, .int .i64 r.i, .int .i64 (hi r.s), .int .u64 (lo r.s), .int .i64 r.l, .int .i64 r.m] 30 w1.heap.size kc0 99 wr := Hold2.mk' k1 k3
        go_region_held3 (fun w' => Hold2 w.heap.size #[.int .i64 r.c, .int .i64 r.i, .int .i64 (hi r.s), .int .u64 (lo r.s), .int .i64 r.l, .int .i64 r.m] 30 w1.heap.size kc0 99 w')
          (first | ((with_reducible refine Hold2.off ?_ _ (by omega) (by omega)); (repeat (with_reducible refine Hold2.off ?_ _ (by omega) (by omega))); (with_reducible assumption)) | (with_reducible exact Hold2.drew hS) | (with_reducible exact Hold2.drew (Hold2.alloc hS _)) | (with_reducible exact Hold2.alloc (by assumption) _) | (with_reducible exact Hold2.kept (by assumption) hb2) | (with_reducible exact Hold2.other (by assumption) (by omega) (by omega) _) | (with_reducible assumption))
          (first | (go_at_call 70; refine (q70.out _).mono ?_; rintro e w2 ⟨rfl, hb2⟩; obtain ⟨hc2, hf2⟩ := bcell hb2; have z2 := hb2.size; simp only [World.size_drew, World.size_alloc] at hc2 hf2 z2; (have y2 : w.heap.size < w2.heap.size := by omega); (have y3 : w1.heap.size < w2.heap.size := by omega); (have y4 : wr.heap.size ≤ w2.heap.size := by omega)))
        all_goals (go_wp2_with fail; go_meet)
        all_goals
          refine ⟨_, rfl, by omega, rfl, ?_, ?_⟩
          · first | (with_reducible exact Blk.new _ _ _) | exact Blk.five (Blk.kept (Blk.drew (Blk.new wr _ _)) hb2) _ _ _ _ _
          · repeat' (first | (with_reducible exact Below.refl _ _) | (with_reducible refine Below.alloc ?_ (by go_size) _) | (with_reducible refine Below.drew ?_) | (with_reducible refine Below.set ?_ (by omega) _) | (with_reducible refine Below.after ?_ (by with_reducible assumption) (by go_size)))
      case rest =>
        obtain ⟨g, rfl, hg, rfl, g1, hbx⟩ := hcut
        have zx := hbx.size
        have kk5 := k5.kept hbx
        have m3' := kk5.cell 3
        have n3' := kk5.frozen 3
        have b0 := g1.cell 0
        have b1 := g1.cell 1
        have b2 := g1.cell 2
        have b3 := g1.cell 3
        have b4 := g1.cell 4
        have lg := g1.lt
        simp at m3' b0 b1 b2 b3 b4
        have own' := Lib.hid (own_after own hbx)
        have hne5 : some (w1.heap.size + 1 + 1) ≠ v.ownBlock := fun he => by
          have := (own_lt own he.symm).1
          omega
        clear own
        go_wp2_with (at_builtin; refine wpList_append_lies _ rfl (.tmp 44) (.tmp 46) 36 rfl (w1.heap.size + 1 + 1 + 1 + 1) 39 i0 _ 5 80 Tryd.underlying36 hin hz0 hz1 hz2 rfl (by decide) _ 1 _ rfl (own'.out.alloc _) ⟨wc.heap.size, 0, none⟩ 1 1 (kidC (kd r.i, nn r.i r.m)) rfl rfl (World.news_of_block (Blk.new _ _ _)) (by simp [Value.oneCell']) (by decide) (by unfold maxLen; omega) (by omega) (by go_size) (wc.heap.size + 1) (by simp) ?_; intro g1 cap1 wa hown1 hgrow1 hat1 hlt1; have k5a := Blk.grown (kk5.alloc _) hgrow1 hne5; have m3a := k5a.cell 3; have n3a := k5a.frozen 3; simp at m3a)
        exact ⟨⟨2, _, rfl, by omega, StRel.next hst.out hbx rfl hown1 hgrow1⟩, by simp [intOf]⟩
    · have e0 := k6.cell 2
      have g0 := k3.cell 7
      simp at e0 g0
      go_upto_region 8 with fail
      go_cut [8, 9] (fun p e wx => StCut wr (kd r.i, nn r.i r.l) p e wx)
      case first =>
        have hS : Hold2 w.heap.size #[.int .i64 r.c, .int .i64 r.i, .int .i64 (hi r.s), .int .u64 (lo r.s), .int .i64 r.l, .int .i64 r.m] 30 w1.heap.size kc0 99 wr := Hold2.mk' k1 k3
        go_region_held3 (fun w' => Hold2 w.heap.size #[.int .i64 r.c, .int .i64 r.i, .int .i64 (hi r.s), .int .u64 (lo r.s), .int .i64 r.l, .int .i64 r.m] 30 w1.heap.size kc0 99 w')
          (first | ((with_reducible refine Hold2.off ?_ _ (by omega) (by omega)); (repeat (with_reducible refine Hold2.off ?_ _ (by omega) (by omega))); (with_reducible assumption)) | (with_reducible exact Hold2.drew hS) | (with_reducible exact Hold2.drew (Hold2.alloc hS _)) | (with_reducible exact Hold2.alloc (by assumption) _) | (with_reducible exact Hold2.kept (by assumption) hb2) | (with_reducible exact Hold2.other (by assumption) (by omega) (by omega) _) | (with_reducible assumption))
          (first | (go_at_call 68; refine (q68.out _).mono ?_; rintro e w2 ⟨rfl, hb2⟩; obtain ⟨hc2, hf2⟩ := bcell hb2; have z2 := hb2.size; simp only [World.size_drew, World.size_alloc] at hc2 hf2 z2; (have y2 : w.heap.size < w2.heap.size := by omega); (have y3 : w1.heap.size < w2.heap.size := by omega); (have y4 : wr.heap.size ≤ w2.heap.size := by omega)))
        all_goals (go_wp2_with fail; go_meet)
        all_goals
          refine ⟨_, rfl, by omega, rfl, ?_, ?_⟩
          · first | (with_reducible exact Blk.new _ _ _) | exact Blk.five (Blk.kept (Blk.drew (Blk.new wr _ _)) hb2) _ _ _ _ _
          · repeat' (first | (with_reducible exact Below.refl _ _) | (with_reducible refine Below.alloc ?_ (by go_size) _) | (with_reducible refine Below.drew ?_) | (with_reducible refine Below.set ?_ (by omega) _) | (with_reducible refine Below.after ?_ (by with_reducible assumption) (by go_size)))
      case rest =>
        obtain ⟨g, rfl, hg, rfl, g1, hbx⟩ := hcut
        have zx := hbx.size
        have kk5 := k5.kept hbx
        have m3' := kk5.cell 3
        have n3' := kk5.frozen 3
        have b0 := g1.cell 0
        have b1 := g1.cell 1
        have b2 := g1.cell 2
        have b3 := g1.cell 3
        have b4 := g1.cell 4
        have lg := g1.lt
        simp at m3' b0 b1 b2 b3 b4
        have own' := Lib.hid (own_after own hbx)
        have hne5 : some (w1.heap.size + 1 + 1) ≠ v.ownBlock := fun he => by
          have := (own_lt own he.symm).1
          omega
        clear own
        go_wp2_with (at_builtin; refine wpList_append_lies _ rfl (.tmp 44) (.tmp 46) 36 rfl (w1.heap.size + 1 + 1 + 1 + 1) 39 i0 _ 5 80 Tryd.underlying36 hin hz0 hz1 hz2 rfl (by decide) _ 2 _ rfl (own'.out.alloc _) ⟨wc.heap.size, 0, none⟩ 1 1 (kidC (kd r.i, nn r.i r.l)) rfl rfl (World.news_of_block (Blk.new _ _ _)) (by simp [Value.oneCell']) (by decide) (by unfold maxLen; omega) (by omega) (by go_size) (wc.heap.size + 1) (by simp) ?_; intro g1 cap1 wa hown1 hgrow1 hat1 hlt1; have k5a := Blk.grown (kk5.alloc _) hgrow1 hne5; have m3a := k5a.cell 3; have n3a := k5a.frozen 3; simp at m3a)
        exact ⟨⟨3, _, rfl, by omega, StRel.next hst.out hbx rfl hown1 hgrow1⟩, by simp [intOf]⟩
    · have e0 := k6.cell 3
      simp at e0
      go_upto_region 7 with fail
      have hS : Hold w.heap.size #[.int .i64 r.c, .int .i64 r.i, .int .i64 (hi r.s), .int .u64 (lo r.s), .int .i64 r.l, .int .i64 r.m] 30 wr := Hold.mk' k1
      have own' := Lib.hid own
      have hne5 : some (w1.heap.size + 1 + 1) ≠ v.ownBlock := fun he => by
        have := (own_lt own he.symm).1
        omega
      have hne1 : some w.heap.size ≠ v.ownBlock := fun he => by
        have := (own_lt own he.symm).1
        omega
      clear own
      have k5' := Lib.hid k5
      go_region_law
        (first
          | (refine step_append_lies _ (by rfl) _ _ _ (by rfl) (w1.heap.size + 1 + 1 + 1 + 1) 39 i0 _ 5 80 Tryd.underlying36 hin hz0 hz1 hz2 rfl (by omega) v 3 _ (by rfl) ((own_after own'.out hbx).alloc _) ⟨w2.heap.size, 0, none⟩ 1 1 (kidC (3, r.i)) (by rfl) (by rfl) (World.news_of_block (Blk.new _ _ _)) (by simp [Value.oneCell']) (by omega) (by unfold maxLen; omega) (by omega) (by go_size) (w2.heap.size + 1) (by simp) ?_; intro g1 cap1 wa hown1 hgrow1 hat1 hlt1; have k5a := Blk.grown ((k5'.out.kept hbx).alloc _) hgrow1 hne5; have m3a := k5a.cell 3; have n3a := k5a.frozen 3; simp at m3a)
          | ((rw [if_pos (by rfl)]); go_simp; refine (in_any _ _).mono ?_; rintro e w2 ⟨rfl, hb2⟩; obtain ⟨hc2, hf2⟩ := bcell hb2; have z2 := hb2.size; simp only [World.size_drew] at hc2 hf2 z2; (have y2 : w.heap.size < w2.heap.size := by omega); (have y3 : w1.heap.size < w2.heap.size := by omega); (have y4 : w1.heap.size + 1 + 1 < w2.heap.size := by omega); have hbx := ((Below.refl _ wr).drew).trans hb2; (try dsimp only)))
      all_goals go_wp2_with fail
      all_goals exact ⟨⟨4, _, rfl, by omega, StRel.next hst.out hbx rfl hown1 hgrow1⟩, by simp [intOf]⟩
    · have e0 := k6.cell 4
      have g0 := k3.cell 5
      simp at e0 g0
      go_upto_region 8 with fail
      go_cut [8, 9] (fun p e wx => StCut wr (3, r.s) p e wx)
      case first =>
        have hS : Hold2 w.heap.size #[.int .i64 r.c, .int .i64 r.i, .int .i64 (hi r.s), .int .u64 (lo r.s), .int .i64 r.l, .int .i64 r.m] 30 w1.heap.size kc0 99 wr := Hold2.mk' k1 k3
        go_region_held3 (fun w' => Hold2 w.heap.size #[.int .i64 r.c, .int .i64 r.i, .int .i64 (hi r.s), .int .u64 (lo r.s), .int .i64 r.l, .int .i64 r.m] 30 w1.heap.size kc0 99 w')
          (first | ((with_reducible refine Hold2.off ?_ _ (by omega) (by omega)); (repeat (with_reducible refine Hold2.off ?_ _ (by omega) (by omega))); (with_reducible assumption)) | (with_reducible exact Hold2.drew hS) | (with_reducible exact Hold2.drew (Hold2.alloc hS _)) | (with_reducible exact Hold2.alloc (by assumption) _) | (with_reducible exact Hold2.kept (by assumption) hb2) | (with_reducible exact Hold2.other (by assumption) (by omega) (by omega) _) | (with_reducible assumption))
          (first | (go_at_call 67; refine (q67.out _).mono ?_; rintro e w2 ⟨rfl, hb2⟩; obtain ⟨hc2, hf2⟩ := bcell hb2; have z2 := hb2.size; simp only [World.size_drew, World.size_alloc] at hc2 hf2 z2; (have y2 : w.heap.size < w2.heap.size := by omega); (have y3 : w1.heap.size < w2.heap.size := by omega); (have y4 : wr.heap.size ≤ w2.heap.size := by omega)))
        all_goals (go_wp2_with fail; go_meet)
        all_goals
          refine ⟨_, rfl, by omega, rfl, ?_, ?_⟩
          · first | (with_reducible exact Blk.new _ _ _) | exact Blk.five (Blk.kept (Blk.drew (Blk.new wr _ _)) hb2) _ _ _ _ _
          · repeat' (first | (with_reducible exact Below.refl _ _) | (with_reducible refine Below.alloc ?_ (by go_size) _) | (with_reducible refine Below.drew ?_) | (with_reducible refine Below.set ?_ (by omega) _) | (with_reducible refine Below.after ?_ (by with_reducible assumption) (by go_size)))
      case rest =>
        obtain ⟨g, rfl, hg, rfl, g1, hbx⟩ := hcut
        have zx := hbx.size
        have kk5 := k5.kept hbx
        have m3' := kk5.cell 3
        have n3' := kk5.frozen 3
        have b0 := g1.cell 0
        have b1 := g1.cell 1
        have b2 := g1.cell 2
        have b3 := g1.cell 3
        have b4 := g1.cell 4
        have lg := g1.lt
        simp at m3' b0 b1 b2 b3 b4
        have own' := Lib.hid (own_after own hbx)
        have hne5 : some (w1.heap.size + 1 + 1) ≠ v.ownBlock := fun he => by
          have := (own_lt own he.symm).1
          omega
        clear own
        go_wp2_with (at_builtin; refine wpList_append_lies _ rfl (.tmp 44) (.tmp 46) 36 rfl (w1.heap.size + 1 + 1 + 1 + 1) 39 i0 _ 5 80 Tryd.underlying36 hin hz0 hz1 hz2 rfl (by decide) _ 4 _ rfl (own'.out.alloc _) ⟨wc.heap.size, 0, none⟩ 1 1 (kidC (3, r.s)) rfl rfl (World.news_of_block (Blk.new _ _ _)) (by simp [Value.oneCell']) (by decide) (by unfold maxLen; omega) (by omega) (by go_size) (wc.heap.size + 1) (by simp) ?_; intro g1 cap1 wa hown1 hgrow1 hat1 hlt1; have k5a := Blk.grown (kk5.alloc _) hgrow1 hne5; have m3a := k5a.cell 3; have n3a := k5a.frozen 3; simp at m3a)
        exact ⟨⟨5, _, rfl, by omega, StRel.next hst.out hbx rfl hown1 hgrow1⟩, by simp [intOf]⟩
    · obtain ⟨g, cap, rfl, hbg, hlt⟩ := own.form (by omega)
      have hcap : 5 ≤ cap := by
        rcases own.2 with ⟨e, _⟩ | ⟨g', cap', cur, e, _, _, hnc, _⟩
        · cases e
        · cases e; exact hnc
      have hcells := Lib.hid (World.ownsRow.cells (g := g) own rfl)
      have r0 := k2.frozen 0
      have r1 := k2.frozen 1
      have r2 := k2.frozen 2
      have r3 := k2.frozen 3
      have r4 := k2.frozen 4
      have p0 := k2.cell 0
      have p1 := k2.cell 1
      have p2 := k2.cell 2
      have p3 := k2.cell 3
      have p4 := k2.cell 4
      have l2 := k2.lt
      simp at p0 p1 p2 p3 p4
      clear own hst
      go_wp2_with fail
      refine bodyPost_ret (v := .tuple #[.agg #[.int .i64 6, .int .i64 0, .string ⟨#[]⟩, .slice (some ⟨g, 0, none⟩) 5 cap, .slice (some ⟨w1.heap.size + 1, 0, none⟩) 5 5], .int .i64 0]) (by simp [results, Tryd.results53, go_sem, *]) rfl ⟨_, _, _, rfl, hcap, by omega, by omega, ?_, ?_, ?_, ?_⟩
      · repeat' (first | (with_reducible exact k4) | (with_reducible refine Blk.off ?_ _ (by omega)))
      · intro j u hu
        have h := (add_off g j) ▸ hcells.out j u hu
        rw [cell_off _ _ _ _ _ _ (by omega), cell_off _ _ _ _ _ _ (by omega), cell_off _ _ _ _ _ _ (by omega), cell_off _ _ _ _ _ _ (by omega), cell_off _ _ _ _ _ _ (by omega)]
        exact h
      · simpa using hlt
      · repeat' (first | (with_reducible exact bl) | (with_reducible refine Below.set ?_ (by omega) _))

end Go.Proofs.YtmleipmilmeclaaDoor
