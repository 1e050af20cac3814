/- Walk: MonoidSmall, where there are no numbers. -/
import Derived.Test.YtmleipmilmeclaaDoorWv
namespace Go.Proofs.YtmleipmilmeclaaDoor
open Go.RowKit
attribute [local go_sem ↓] Go.wp_at_zero Go.wp_at_succ

set_option maxRecDepth 100000 in
set_option maxHeartbeats 2000000 in
theorem small_zero (p : Option Addr) (cap : Nat) (hp : p = none ∧ cap = 0 ∨ ∃ a, p = some a) (w : World) (hg : Gl w) :
    Calls Tryd.prog 4 #[.slice p 0 cap] w fun e w' => e = .returned (.bool true) ∧ Below w.heap.size w w' := by
  have ok := redOf_ok [] (by simp) (by simp) 0
  rw [List.take_nil] at ok
  obtain ⟨hrc, hri, hrs⟩ := redOf_sum []
  have hs64 : I64 (redOf []).s := by rw [hrs]; simp [sumI, I64]
  have hci : (redOf []).c = (redOf []).i := by rw [hrc, hri]
  have h7 := all_nil
  have hs0 : (redOf []).s = 0 := hrs
  clear hrs hrc hri
  generalize redOf [] = r at *
  have h7' := Lib.hid h7
  have hs5 := Lib.hid (fun W => tell_stats r ok hs64 W)
  have hci' := Lib.hid hci
  have hs0' := Lib.hid hs0
  clear h7 hci hs0
  rcases hp with ⟨rfl, rfl⟩ | ⟨a, rfl⟩
  all_goals
    go_enter Tryd.func4, Tryd.ntmps4
    go_wp2_with (go_at_call 6; refine (wakes_any _).mono ?_; rintro e w1 ⟨rfl, hb1⟩; have z1 := hb1.size)
    go_loopw [4, 5, 25] (fun v s i wr => v = .slice none 0 0 ∧ s = .int .i64 0 ∧ i = .int .i64 0 ∧ Below w.heap.size w wr) (fun _ _ _ _ => 0)
    case atStart => exact ⟨rfl, rfl, rfl, hb1⟩
    obtain ⟨rfl, rfl, rfl, hbr⟩ := hrel
    have z3 := hbr.size
    have hbr' := Lib.hid hbr
    clear hbr
    simp only [rv] at h7' hs5
    go_wp2_with (first
      | (go_at_call 7; refine (h7'.out _).mono ?_; clear h7'; rintro e w2 ⟨rfl, hb2⟩; have z4 := hb2.size)
      | (go_at_call 9; refine (hs5.out _).mono ?_; clear hs5; rintro e w3 ⟨kb, gk, cp, rfl, hcp, hgk, hkb, kk, hkc, hkl, hb3⟩; have hkc' := Lib.hid hkc; clear hkc; have z5 := hb3.size; simp only [World.size_alloc] at z5))
    generalize hW5 : World.alloc (World.alloc w3 (Obj.cells #[Value.int IntKind.i64 6, Value.int IntKind.i64 0, Value.string { data := #[] }, Value.slice (some { block := gk, off := 0 }) 5 cp, Value.slice (some { block := kb, off := 0 }) 5 5] 39)) (Obj.cells #[Value.int IntKind.i64 1, Value.int IntKind.i64 4, Value.int IntKind.i64 3, Value.int IntKind.i64 1, Value.int IntKind.i64 2] 3) = W5
    have z6 : W5.heap.size = w3.heap.size + 1 + 1 := by rw [← hW5]; simp
    have rb : Blk W5 w2.heap.size (rc r) 30 := by rw [← hW5]; exact (((Blk.new w2 _ _).kept hb3).alloc _).alloc _
    have sb : Blk W5 w3.heap.size #[.int .i64 6, .int .i64 0, .string ⟨#[]⟩, .slice (some ⟨gk, 0, none⟩) 5 cp, .slice (some ⟨kb, 0, none⟩) 5 5] 39 := by rw [← hW5]; exact (Blk.new w3 _ _).alloc _
    have ib : Blk W5 (w3.heap.size + 1) #[.int .i64 1, .int .i64 4, .int .i64 3, .int .i64 1, .int .i64 2] 3 := by rw [← hW5]; exact Blk.new' (by simp)
    have kb5 : Blk W5 kb keysC 9 := by rw [← hW5]; exact (kk.alloc _).alloc _
    have hbl5 : Below w3.heap.size w3 W5 := by rw [← hW5]; go_grown
    have hkc5 := Lib.hid (fun j u (hu : (kidsC (five r))[j]? = some u) => (hbl5.cell (p := ⟨gk, j, none⟩) hkl).trans (hkc'.out j u hu))
    have hB5 : Below w.heap.size w W5 := by
      have a1 := Below.after hbr'.out hb2 z3
      have a2 := Below.after (Below.alloc a1 (by omega) (.cells (rc r) 30)) hb3 (by simp only [World.size_alloc]; omega)
      exact Below.after a2 hbl5 (by omega)
    have hg5 := hg.below hB5 hg.lt (by omega)
    have hgk5 : gk < W5.heap.size := by omega
    have hB5' := Lib.hid hB5
    clear hW5 hkc' kk hbl5 hbr' hb2 hb3 hB5
    go_loopw [64] (fun i wq => ∃ j : Nat, i = .int .i64 (j : Int) ∧ j ≤ 5 ∧ Below W5.heap.size W5 wq) (fun i _ => 5 - (intOf i).toNat)
    case atStart => exact ⟨0, rfl, by omega, Below.refl _ _⟩
    case round =>
      obtain ⟨j, rfl, hj, hq⟩ := hrel
      have z7 := hq.size
      have rbq := rb.kept hq
      have sbq := sb.kept hq
      have a0 := rbq.cell 0
      have a1 := rbq.cell 1
      have a2 := rbq.cell 2
      have a3 := rbq.cell 3
      have a4 := rbq.cell 4
      have a5 := rbq.cell 5
      simp only [rc] at a0 a1 a2 a3 a4 a5
      simp at a0 a1 a2 a3 a4 a5
      by_cases hj5 : j < 5
      · have hjc : j = 0 ∨ j = 1 ∨ j = 2 ∨ j = 3 ∨ j = 4 := by omega
        rcases hjc with rfl | rfl | rfl | rfl | rfl
        · have i0 := (hq.cell (p := ⟨w3.heap.size + 1, 0, none⟩) ib.lt).trans (ib.cell 0)
          have d0 := (hq.cell (p := ⟨gk, 0, none⟩) hgk5).trans (hkc5.out 0 _ rfl)
          have d1 := (hq.cell (p := ⟨gk, 1, none⟩) hgk5).trans (hkc5.out 1 _ rfl)
          have d2 := (hq.cell (p := ⟨gk, 2, none⟩) hgk5).trans (hkc5.out 2 _ rfl)
          have d3 := (hq.cell (p := ⟨gk, 3, none⟩) hgk5).trans (hkc5.out 3 _ rfl)
          have d4 := (hq.cell (p := ⟨gk, 4, none⟩) hgk5).trans (hkc5.out 4 _ rfl)
          simp at i0
          have hT := Lib.hid (fun W => tell_count r ok W)
          have hSm := Lib.hid (fun W => same_leaf (3, r.c) (.inl rfl) W)
          simp only [rv, V5.v, V5.cs] at hT hSm
          have lq : gk < wr.heap.size := by omega
          go_upto_region 20 with (go_at_call 9; refine (hT.out _).mono ?_; rintro e w6 ⟨rfl, hb6⟩; obtain ⟨hc6, hf6⟩ := bcell hb6; have z8 := hb6.size)
          have l6 : gk < w6.heap.size := by omega
          have hS := H5.mk' ((Blk.new w6 _ _)) ((sbq.kept hb6).alloc (.cells (kidC (3, r.c)).toArray 39)) (e0 := (hb6.cell (p := ⟨gk, 0, none⟩) lq).trans d0) (e1 := (hb6.cell (p := ⟨gk, 1, none⟩) lq).trans d1) (e2 := (hb6.cell (p := ⟨gk, 2, none⟩) lq).trans d2) (e3 := (hb6.cell (p := ⟨gk, 3, none⟩) lq).trans d3) (e4 := (hb6.cell (p := ⟨gk, 4, none⟩) lq).trans d4) l6
          have z9 : w3.heap.size < w6.heap.size := by omega
          go_region_held3 (fun w' => H5 w6.heap.size (kidC (3, r.c)).toArray w3.heap.size #[.int .i64 6, .int .i64 0, .string ⟨#[]⟩, .slice (some ⟨gk, 0, none⟩) 5 cp, .slice (some ⟨kb, 0, none⟩) 5 5] gk 0 1 2 3 4 (.int .i64 3) (.int .i64 r.c) (.string ⟨#[]⟩) (.slice none 0 0) (.slice none 0 0) w')
            (first | (with_reducible exact H5.drew hS) | (with_reducible exact H5.kept (by assumption) hb7 (by simp only [World.size_drew, World.size_alloc]; omega)) | (with_reducible assumption))
            (first | (go_at_call 10; refine (hSm.out _).mono ?_; rintro e w7 ⟨rfl, hb7⟩; have z10 := hb7.size))
          go_wp2_with fail
          exact ⟨⟨1, rfl, by omega, Below.after (Below.drew (Below.alloc (Below.after hq hb6 z7) (by omega) _)) hb7 (by simp only [World.size_drew, World.size_alloc]; omega)⟩, by simp [intOf]⟩
        · have i0 := (hq.cell (p := ⟨w3.heap.size + 1, 1, none⟩) ib.lt).trans (ib.cell 1)
          have d0 := (hq.cell (p := ⟨gk, 5, none⟩) hgk5).trans (hkc5.out 5 _ rfl)
          have d1 := (hq.cell (p := ⟨gk, 6, none⟩) hgk5).trans (hkc5.out 6 _ rfl)
          have d2 := (hq.cell (p := ⟨gk, 7, none⟩) hgk5).trans (hkc5.out 7 _ rfl)
          have d3 := (hq.cell (p := ⟨gk, 8, none⟩) hgk5).trans (hkc5.out 8 _ rfl)
          have d4 := (hq.cell (p := ⟨gk, 9, none⟩) hgk5).trans (hkc5.out 9 _ rfl)
          simp at i0
          have hT := Lib.hid (fun W => tell_most r ok W)
          have hSm := Lib.hid (fun W => same_leaf (kd r.i, nn r.i r.m) (kd_leaf r _) W)
          simp only [rv, V5.v, V5.cs] at hT hSm
          have lq : gk < wr.heap.size := by omega
          go_upto_region 20 with (go_at_call 9; refine (hT.out _).mono ?_; rintro e w6 ⟨rfl, hb6⟩; obtain ⟨hc6, hf6⟩ := bcell hb6; have z8 := hb6.size)
          have l6 : gk < w6.heap.size := by omega
          have hS := H5.mk' ((Blk.new w6 _ _)) ((sbq.kept hb6).alloc (.cells (kidC (kd r.i, nn r.i r.m)).toArray 39)) (e0 := (hb6.cell (p := ⟨gk, 5, none⟩) lq).trans d0) (e1 := (hb6.cell (p := ⟨gk, 6, none⟩) lq).trans d1) (e2 := (hb6.cell (p := ⟨gk, 7, none⟩) lq).trans d2) (e3 := (hb6.cell (p := ⟨gk, 8, none⟩) lq).trans d3) (e4 := (hb6.cell (p := ⟨gk, 9, none⟩) lq).trans d4) l6
          have z9 : w3.heap.size < w6.heap.size := by omega
          go_region_held3 (fun w' => H5 w6.heap.size (kidC (kd r.i, nn r.i r.m)).toArray w3.heap.size #[.int .i64 6, .int .i64 0, .string ⟨#[]⟩, .slice (some ⟨gk, 0, none⟩) 5 cp, .slice (some ⟨kb, 0, none⟩) 5 5] gk 5 6 7 8 9 (.int .i64 (kd r.i)) (.int .i64 (nn r.i r.m)) (.string ⟨#[]⟩) (.slice none 0 0) (.slice none 0 0) w')
            (first | (with_reducible exact H5.drew hS) | (with_reducible exact H5.kept (by assumption) hb7 (by simp only [World.size_drew, World.size_alloc]; omega)) | (with_reducible assumption))
            (first | (go_at_call 10; refine (hSm.out _).mono ?_; rintro e w7 ⟨rfl, hb7⟩; have z10 := hb7.size))
          go_wp2_with fail
          exact ⟨⟨2, rfl, by omega, Below.after (Below.drew (Below.alloc (Below.after hq hb6 z7) (by omega) _)) hb7 (by simp only [World.size_drew, World.size_alloc]; omega)⟩, by simp [intOf]⟩
        · have i0 := (hq.cell (p := ⟨w3.heap.size + 1, 2, none⟩) ib.lt).trans (ib.cell 2)
          have d0 := (hq.cell (p := ⟨gk, 10, none⟩) hgk5).trans (hkc5.out 10 _ rfl)
          have d1 := (hq.cell (p := ⟨gk, 11, none⟩) hgk5).trans (hkc5.out 11 _ rfl)
          have d2 := (hq.cell (p := ⟨gk, 12, none⟩) hgk5).trans (hkc5.out 12 _ rfl)
          have d3 := (hq.cell (p := ⟨gk, 13, none⟩) hgk5).trans (hkc5.out 13 _ rfl)
          have d4 := (hq.cell (p := ⟨gk, 14, none⟩) hgk5).trans (hkc5.out 14 _ rfl)
          simp at i0
          have hT := Lib.hid (fun W => tell_least r ok W)
          have hSm := Lib.hid (fun W => same_leaf (kd r.i, nn r.i r.l) (kd_leaf r _) W)
          simp only [rv, V5.v, V5.cs] at hT hSm
          have lq : gk < wr.heap.size := by omega
          go_upto_region 20 with (go_at_call 9; refine (hT.out _).mono ?_; rintro e w6 ⟨rfl, hb6⟩; obtain ⟨hc6, hf6⟩ := bcell hb6; have z8 := hb6.size)
          have l6 : gk < w6.heap.size := by omega
          have hS := H5.mk' ((Blk.new w6 _ _)) ((sbq.kept hb6).alloc (.cells (kidC (kd r.i, nn r.i r.l)).toArray 39)) (e0 := (hb6.cell (p := ⟨gk, 10, none⟩) lq).trans d0) (e1 := (hb6.cell (p := ⟨gk, 11, none⟩) lq).trans d1) (e2 := (hb6.cell (p := ⟨gk, 12, none⟩) lq).trans d2) (e3 := (hb6.cell (p := ⟨gk, 13, none⟩) lq).trans d3) (e4 := (hb6.cell (p := ⟨gk, 14, none⟩) lq).trans d4) l6
          have z9 : w3.heap.size < w6.heap.size := by omega
          go_region_held3 (fun w' => H5 w6.heap.size (kidC (kd r.i, nn r.i r.l)).toArray w3.heap.size #[.int .i64 6, .int .i64 0, .string ⟨#[]⟩, .slice (some ⟨gk, 0, none⟩) 5 cp, .slice (some ⟨kb, 0, none⟩) 5 5] gk 10 11 12 13 14 (.int .i64 (kd r.i)) (.int .i64 (nn r.i r.l)) (.string ⟨#[]⟩) (.slice none 0 0) (.slice none 0 0) w')
            (first | (with_reducible exact H5.drew hS) | (with_reducible exact H5.kept (by assumption) hb7 (by simp only [World.size_drew, World.size_alloc]; omega)) | (with_reducible assumption))
            (first | (go_at_call 10; refine (hSm.out _).mono ?_; rintro e w7 ⟨rfl, hb7⟩; have z10 := hb7.size))
          go_wp2_with fail
          exact ⟨⟨3, rfl, by omega, Below.after (Below.drew (Below.alloc (Below.after hq hb6 z7) (by omega) _)) hb7 (by simp only [World.size_drew, World.size_alloc]; omega)⟩, by simp [intOf]⟩
        · have i0 := (hq.cell (p := ⟨w3.heap.size + 1, 3, none⟩) ib.lt).trans (ib.cell 3)
          have d0 := (hq.cell (p := ⟨gk, 15, none⟩) hgk5).trans (hkc5.out 15 _ rfl)
          have d1 := (hq.cell (p := ⟨gk, 16, none⟩) hgk5).trans (hkc5.out 16 _ rfl)
          have d2 := (hq.cell (p := ⟨gk, 17, none⟩) hgk5).trans (hkc5.out 17 _ rfl)
          have d3 := (hq.cell (p := ⟨gk, 18, none⟩) hgk5).trans (hkc5.out 18 _ rfl)
          have d4 := (hq.cell (p := ⟨gk, 19, none⟩) hgk5).trans (hkc5.out 19 _ rfl)
          simp at i0
          have hT := Lib.hid (fun W => Calls.mono (tell_count r ok W) (fun (e : Ending) (w' : World) h => (⟨h.1.trans (by rw [hci'.out]), h.2⟩ : e = .returned (.tuple #[vInt r.i, .int .i64 0]) ∧ Below W.heap.size W w')))
          have hSm := Lib.hid (fun W => same_leaf (3, r.i) (.inl rfl) W)
          simp only [rv, V5.v, V5.cs] at hT hSm
          have lq : gk < wr.heap.size := by omega
          go_upto_region 20 with (go_at_call 9; refine (hT.out _).mono ?_; rintro e w6 ⟨rfl, hb6⟩; obtain ⟨hc6, hf6⟩ := bcell hb6; have z8 := hb6.size)
          have l6 : gk < w6.heap.size := by omega
          have hS := H5.mk' ((Blk.new w6 _ _)) ((sbq.kept hb6).alloc (.cells (kidC (3, r.i)).toArray 39)) (e0 := (hb6.cell (p := ⟨gk, 15, none⟩) lq).trans d0) (e1 := (hb6.cell (p := ⟨gk, 16, none⟩) lq).trans d1) (e2 := (hb6.cell (p := ⟨gk, 17, none⟩) lq).trans d2) (e3 := (hb6.cell (p := ⟨gk, 18, none⟩) lq).trans d3) (e4 := (hb6.cell (p := ⟨gk, 19, none⟩) lq).trans d4) l6
          have z9 : w3.heap.size < w6.heap.size := by omega
          go_region_held3 (fun w' => H5 w6.heap.size (kidC (3, r.i)).toArray w3.heap.size #[.int .i64 6, .int .i64 0, .string ⟨#[]⟩, .slice (some ⟨gk, 0, none⟩) 5 cp, .slice (some ⟨kb, 0, none⟩) 5 5] gk 15 16 17 18 19 (.int .i64 3) (.int .i64 r.i) (.string ⟨#[]⟩) (.slice none 0 0) (.slice none 0 0) w')
            (first | (with_reducible exact H5.drew hS) | (with_reducible exact H5.kept (by assumption) hb7 (by simp only [World.size_drew, World.size_alloc]; omega)) | (with_reducible assumption))
            (first | (go_at_call 10; refine (hSm.out _).mono ?_; rintro e w7 ⟨rfl, hb7⟩; have z10 := hb7.size))
          go_wp2_with fail
          exact ⟨⟨4, rfl, by omega, Below.after (Below.drew (Below.alloc (Below.after hq hb6 z7) (by omega) _)) hb7 (by simp only [World.size_drew, World.size_alloc]; omega)⟩, by simp [intOf]⟩
        · have i0 := (hq.cell (p := ⟨w3.heap.size + 1, 4, none⟩) ib.lt).trans (ib.cell 4)
          have d0 := (hq.cell (p := ⟨gk, 20, none⟩) hgk5).trans (hkc5.out 20 _ rfl)
          have d1 := (hq.cell (p := ⟨gk, 21, none⟩) hgk5).trans (hkc5.out 21 _ rfl)
          have d2 := (hq.cell (p := ⟨gk, 22, none⟩) hgk5).trans (hkc5.out 22 _ rfl)
          have d3 := (hq.cell (p := ⟨gk, 23, none⟩) hgk5).trans (hkc5.out 23 _ rfl)
          have d4 := (hq.cell (p := ⟨gk, 24, none⟩) hgk5).trans (hkc5.out 24 _ rfl)
          simp at i0
          have hT := Lib.hid (fun W => tell_sum r ok hs64 W)
          have hSm := Lib.hid (fun W => same_leaf (3, r.s) (.inl rfl) W)
          simp only [rv, V5.v, V5.cs] at hT hSm
          have lq : gk < wr.heap.size := by omega
          go_upto_region 20 with (go_at_call 9; refine (hT.out _).mono ?_; rintro e w6 ⟨rfl, hb6⟩; obtain ⟨hc6, hf6⟩ := bcell hb6; have z8 := hb6.size)
          have l6 : gk < w6.heap.size := by omega
          have hS := H5.mk' ((Blk.new w6 _ _)) ((sbq.kept hb6).alloc (.cells (kidC (3, r.s)).toArray 39)) (e0 := (hb6.cell (p := ⟨gk, 20, none⟩) lq).trans d0) (e1 := (hb6.cell (p := ⟨gk, 21, none⟩) lq).trans d1) (e2 := (hb6.cell (p := ⟨gk, 22, none⟩) lq).trans d2) (e3 := (hb6.cell (p := ⟨gk, 23, none⟩) lq).trans d3) (e4 := (hb6.cell (p := ⟨gk, 24, none⟩) lq).trans d4) l6
          have z9 : w3.heap.size < w6.heap.size := by omega
          go_region_held3 (fun w' => H5 w6.heap.size (kidC (3, r.s)).toArray w3.heap.size #[.int .i64 6, .int .i64 0, .string ⟨#[]⟩, .slice (some ⟨gk, 0, none⟩) 5 cp, .slice (some ⟨kb, 0, none⟩) 5 5] gk 20 21 22 23 24 (.int .i64 3) (.int .i64 r.s) (.string ⟨#[]⟩) (.slice none 0 0) (.slice none 0 0) w')
            (first | (with_reducible exact H5.drew hS) | (with_reducible exact H5.kept (by assumption) hb7 (by simp only [World.size_drew, World.size_alloc]; omega)) | (with_reducible assumption))
            (first | (go_at_call 10; refine (hSm.out _).mono ?_; rintro e w7 ⟨rfl, hb7⟩; have z10 := hb7.size))
          go_wp2_with fail
          exact ⟨⟨5, rfl, by omega, Below.after (Below.drew (Below.alloc (Below.after hq hb6 z7) (by omega) _)) hb7 (by simp only [World.size_drew, World.size_alloc]; omega)⟩, by simp [intOf]⟩
      · obtain rfl : j = 5 := by omega
        have b0 := sbq.cell 0
        have b1 := sbq.cell 1
        have b2 := sbq.cell 2
        have b3 := sbq.cell 3
        have b4 := sbq.cell 4
        simp at b0 b1 b2 b3 b4
        have e1 := (hq.cell (p := ⟨gk, 21, none⟩) hgk5).trans (hkc5.out 21 _ rfl)
        rw [hs0'.out] at e1
        have hq' := Lib.hid hq
        have hC := Lib.hid (fun (W : World) (hW : Below wr.heap.size wr W) => check_stats r gk cp kb W (kb5.below (Below.after hq' hW z7) kb5.lt) (fun j u hu => ((Below.after hq' hW z7).cell (p := ⟨gk, j, none⟩) hgk5).trans (hkc5.out j u hu)) (by have := hW.size; omega) (hg5.below (Below.after hq' hW z7) hg5.lt (by have := hW.size; omega)))
        simp only [V5.v, V5.cs] at hC
        go_wp2_with (go_at_call 11; refine (hC.out _ (Below.refl _ _)).mono ?_; rintro e w6 ⟨rfl, hb6⟩)
        refine bodyPost_ret (v := .bool true) (by simp [results, Tryd.results4, go_sem]) rfl ⟨rfl, ?_⟩
        exact Below.after (Below.after hB5'.out hq (by omega)) hb6 (by omega)

end Go.Proofs.YtmleipmilmeclaaDoor
