/- Walk: MonoidSmall. -/
import Derived.Test.YtmleipmilmeclaaDoorWu
namespace Go.Proofs.YtmleipmilmeclaaDoor
open Go.RowKit
attribute [local go_sem ↓] Go.wp_at_zero Go.wp_at_succ

def I32 (n : Int) : Prop := -2147483648 ≤ n ∧ n ≤ 2147483647

structure SRel (w : World) (L : List Int) (k : Nat) (v : Value) (wr : World) : Prop where
  o1 : wr.ownsRow w.heap.size 27 4 v k (items (L.take k))
  bl : Below w.heap.size w wr

def sumI : List Int → Int
  | [] => 0
  | x :: L => x + sumI L
theorem sumI_snoc (L : List Int) (x : Int) : sumI (L ++ [x]) = sumI L + x := by
  induction L with
  | nil => simp [sumI]
  | cons y L ih => simp only [List.cons_append, sumI, ih]; omega
theorem sumI_bd (L : List Int) (h : ∀ x ∈ L, I32 x) : -2147483648 * (L.length : Int) ≤ sumI L ∧ sumI L ≤ 2147483648 * (L.length : Int) := by
  induction L with
  | nil => simp [sumI]
  | cons y L ih =>
    have h1 := ih (fun x hx => h x (by simp [hx]))
    have h2 := h y (by simp)
    unfold I32 at h2
    simp only [sumI, List.length_cons]
    omega

/-- PLAIN: rows with numbers: as many as there are, and their sum. -/
theorem redOf_sum (L : List Int) : (redOf L).c = L.length ∧ (redOf L).i = L.length ∧ (redOf L).s = sumI L := by
  have key : ∀ (L : List Int) (r : R), 0 ≤ r.i → (r.i = 0 → r.s = 0) → (L.foldl (fun r n => r.both (R.one n)) r).c = r.c + L.length ∧ (L.foldl (fun r n => r.both (R.one n)) r).i = r.i + L.length ∧ (L.foldl (fun r n => r.both (R.one n)) r).s = r.s + sumI L := by
    intro L
    induction L with
    | nil => intro r _ _; simp [sumI]
    | cons x L ih =>
      intro r h0 hz
      have e : (r.both (R.one x)).c = r.c + 1 ∧ (r.both (R.one x)).i = r.i + 1 ∧ (r.both (R.one x)).s = r.s + x := by
        unfold R.both R.one
        simp only [show ¬((1 : Int) = 0) by omega, if_false]
        by_cases hi : r.i > 0
        · simp only [hi, if_true]; exact ⟨trivial, trivial, trivial⟩
        · simp only [hi, if_false]; exact ⟨trivial, trivial, trivial⟩
      obtain ⟨e1, e2, e3⟩ := e
      have h := ih (r.both (R.one x)) (by omega) (by omega)
      simp only [List.foldl_cons, List.length_cons, sumI]
      rw [h.1, h.2.1, h.2.2, e1, e2, e3]
      omega
  have h := key L R.zero (by simp [R.zero]) (by simp [R.zero])
  simpa [R.zero, redOf] using h

abbrev H5 (vb : Nat) (cs : Array Value) (sb : Nat) (ds : Array Value) (g o0 o1 o2 o3 o4 : Nat) (x0 x1 x2 x3 x4 : Value) (w : World) : Prop :=
  Hold2 vb cs 39 sb ds 39 w ∧ w.cell? ⟨g, o0, none⟩ = some x0 ∧ w.cell? ⟨g, o1, none⟩ = some x1 ∧ w.cell? ⟨g, o2, none⟩ = some x2 ∧ w.cell? ⟨g, o3, none⟩ = some x3 ∧ w.cell? ⟨g, o4, none⟩ = some x4
section
variable {vb sb g o0 o1 o2 o3 o4 : Nat} {cs ds : Array Value} {x0 x1 x2 x3 x4 : Value} {w w' : World}
theorem H5.kept (h : H5 vb cs sb ds g o0 o1 o2 o3 o4 x0 x1 x2 x3 x4 w) (hb : Below w.heap.size w w') (hg : g < w.heap.size) : H5 vb cs sb ds g o0 o1 o2 o3 o4 x0 x1 x2 x3 x4 w' := by
  obtain ⟨h0, h1, h2, h3, h4, h5⟩ := h
  exact ⟨h0.kept hb, (hb.cell (p := ⟨g, o0, none⟩) hg).trans h1, (hb.cell (p := ⟨g, o1, none⟩) hg).trans h2, (hb.cell (p := ⟨g, o2, none⟩) hg).trans h3, (hb.cell (p := ⟨g, o3, none⟩) hg).trans h4, (hb.cell (p := ⟨g, o4, none⟩) hg).trans h5⟩
theorem H5.drew (h : H5 vb cs sb ds g o0 o1 o2 o3 o4 x0 x1 x2 x3 x4 w) : H5 vb cs sb ds g o0 o1 o2 o3 o4 x0 x1 x2 x3 x4 w.drew :=
  ⟨h.1.drew, h.2⟩
theorem H5.mk' {u : Obj} (hv : Blk (w.alloc u) vb cs 39) (hs : Blk (w.alloc u) sb ds 39) (e0 : w.cell? ⟨g, o0, none⟩ = some x0) (e1 : w.cell? ⟨g, o1, none⟩ = some x1) (e2 : w.cell? ⟨g, o2, none⟩ = some x2) (e3 : w.cell? ⟨g, o3, none⟩ = some x3) (e4 : w.cell? ⟨g, o4, none⟩ = some x4) (hg : g < w.heap.size) :
    H5 vb cs sb ds g o0 o1 o2 o3 o4 x0 x1 x2 x3 x4 (w.alloc u) := by
  have hb : Below w.heap.size w (w.alloc u) := (Below.refl _ _).alloc (Nat.le_refl _) _
  exact ⟨Hold2.mk' hv hs, (hb.cell (p := ⟨g, o0, none⟩) hg).trans e0, (hb.cell (p := ⟨g, o1, none⟩) hg).trans e1, (hb.cell (p := ⟨g, o2, none⟩) hg).trans e2, (hb.cell (p := ⟨g, o3, none⟩) hg).trans e3, (hb.cell (p := ⟨g, o4, none⟩) hg).trans e4⟩
end
theorem kd_leaf (r : R) (n : Int) : kd r.i = 3 ∨ (kd r.i = 1 ∧ nn r.i n = 0) := by
  unfold kd nn; by_cases hi : r.i = 0 <;> simp [hi]

theorem same_leaf (p : Int × Int) (h : p.1 = 3 ∨ (p.1 = 1 ∧ p.2 = 0)) (w : World) : Calls Tryd.prog 10 #[(leaf p).v, (leaf p).v] w fun e w' => e = .returned (.bool true) ∧ Below w.heap.size w w' := by
  have hr := fun w => right_leaf (leaf p) (by simp only; omega) rfl true (leaf_is p h) w
  exact same_any (leaf p) (leaf p) true true true hr hr (fun w => by simpa using equal_leaf (leaf p) (leaf p) rfl rfl rfl rfl w) w

set_option maxRecDepth 100000 in
set_option maxHeartbeats 2000000 in
theorem small_any (n cap b off : Nat) (hn0 : 0 < n) (hn : n ≤ 9223372036854775807) (hcap : n ≤ cap) (w : World) (hg : Gl w) (hL : ∀ j, j < n → ∃ x, w.cell? ⟨b, off + j, none⟩ = some (.int .i32 x) ∧ I32 x) :
    Calls Tryd.prog 4 #[.slice (some ⟨b, off, none⟩) n cap] w fun e w' => e = .returned (.bool true) ∧ Below w.heap.size w w' := by
  go_enter Tryd.func4, Tryd.ntmps4
  have hL' := Lib.hid hL
  clear hL
  go_upto_region 3 with (go_at_call 6; refine (wakes_any _).mono ?_; rintro e w1 ⟨rfl, hb1⟩; obtain ⟨hc1, hf1⟩ := bcell hb1; have z1 := hb1.size)
  go_cut [3] (fun v wx => ∃ m, v = .slice (some ⟨b, off, none⟩) m cap ∧ 0 < m ∧ m ≤ 60 ∧ m ≤ n ∧ Below w.heap.size w wx)
  case first =>
    go_wp2_with fail
    all_goals go_meet
    all_goals exact ⟨_, rfl, by omega, by omega, by omega, hb1⟩
  case rest =>
    obtain ⟨m, rfl, hm0, hm1, hm2, hbw⟩ := hcut
    have z2 := hbw.size
    obtain ⟨LL, hLL, hLc⟩ : ∃ LL : List Int, LL.length = m ∧ ∀ j (hj : j < LL.length), I32 LL[j] ∧ w.cell? ⟨b, off + j, none⟩ = some (.int .i32 LL[j]) := by
      have : ∀ m, m ≤ n → ∃ LL : List Int, LL.length = m ∧ ∀ j (hj : j < LL.length), I32 LL[j] ∧ w.cell? ⟨b, off + j, none⟩ = some (.int .i32 LL[j]) := by
        intro m
        induction m with
        | zero => intro _; exact ⟨[], rfl, fun j hj => by simp at hj⟩
        | succ m ih =>
          intro hm
          obtain ⟨LL, h1, h2⟩ := ih (by omega)
          obtain ⟨x, hx, hi⟩ := hL'.out m (by omega)
          refine ⟨LL ++ [x], by simp [h1], fun j hj => ?_⟩
          by_cases hj2 : j < LL.length
          · rw [List.getElem_append_left hj2]; exact h2 j hj2
          · have : j = m := by simp at hj; omega
            subst this
            rw [List.getElem_append_right (by omega)]
            simp only [h1, Nat.sub_self, List.getElem_cons_zero]
            exact ⟨hi, hx⟩
      exact this m hm2
    go_wp2_with fail
    go_loopw [4, 5, 25] (fun v s i wr => ∃ k : Nat, i = .int .i64 (k : Int) ∧ k ≤ m ∧ s = .int .i64 (sumI (LL.take k)) ∧ SRel w LL k v wr) (fun _ _ i _ => m - (intOf i).toNat)
    case atStart => exact ⟨0, rfl, by omega, by simp [sumI], ⟨by simpa [items] using World.ownsRow_nil _ _ _ _, hbw⟩⟩
    case round =>
      obtain ⟨k, rfl, hk, rfl, o1, hbr⟩ := hrel
      have z3 := hbr.size
      by_cases hlt : k < m
      · obtain ⟨hy, hx⟩ := hLc k (by omega)
        have hbx : b < w.heap.size := World.block_lt_of_cell? w ⟨b, off + k, none⟩ hx
        have hx' := (hbr.cell (p := ⟨b, off + k, none⟩) hbx).trans hx
        have ht : LL.take (k + 1) = LL.take k ++ [LL[k]] := List.take_succ_eq_append_getElem (by omega)
        have hp1 : items (LL.take (k + 1)) = items (LL.take k) ++ [.slice none 0 0, .slice none 0 0, .bool true, .int .i64 LL[k]] := by rw [ht, items_snoc]
        have hs1 : sumI (LL.take (k + 1)) = sumI (LL.take k) + LL[k] := by rw [ht, sumI_snoc]
        have hsb := sumI_bd (LL.take k) (fun x hx => by
          obtain ⟨j, hj, rfl⟩ := List.getElem_of_mem (List.mem_of_mem_take hx)
          exact (hLc j hj).1)
        rw [List.length_take] at hsb
        have hq1 := Lib.hid hp1
        have hs1' := Lib.hid hs1
        generalize LL[k] = y at *
        generalize sumI (LL.take k) = sk at *
        have ho1 := Lib.hid o1
        have hbr' := Lib.hid hbr
        have hLc' := Lib.hid hLc
        have hLL' := Lib.hid hLL
        obtain ⟨i0, hi, hz0, hz1, hz2⟩ := info_parts info27
        unfold I32 at hy
        have hsk : -2147483648 * 60 ≤ sk ∧ sk ≤ 2147483648 * 60 := by omega
        clear ht hp1 o1 hx hbr hLc hLL hs1 hsb
        go_wp2_with (at_builtin; refine wpList_append_lies _ rfl (.tmp 29) (.tmp 33) 24 rfl w.heap.size 27 i0 _ 4 64 Tryd.underlying24 hi hz0 hz1 hz2 rfl (by decide) _ k _ rfl (ho1.out.alloc _) ⟨wr.heap.size, 0, none⟩ 1 1 [.slice none 0 0, .slice none 0 0, .bool true, .int .i64 _] rfl rfl (World.news_of_block (Blk.new _ _ _)) (by simp [Value.oneCell']) (by decide) (by unfold maxLen; omega) (by omega) (by go_size) (wr.heap.size + 1) (by simp) ?_; intro g1 cap1 wa hown1 hgrow1 hat1 hlt1)
        exact ⟨⟨k + 1, by simp, by omega, by rw [hs1'.out], ⟨by rw [hq1.out]; exact hown1, Below.grown (hbr'.out.alloc z3 _) hgrow1 (by go_size) fun b hb => (own_lt ho1.out hb).1⟩⟩, by simp [intOf]; omega⟩
      · obtain rfl : k = m := by omega
        rw [List.take_of_length_le (by omega)] at o1
        rw [List.take_of_length_le (by omega)]
        have hI : ∀ x ∈ LL, I32 x := fun x hx => by
          obtain ⟨j, hj, rfl⟩ := List.getElem_of_mem hx
          exact (hLc j hj).1
        have hI64 : ∀ x ∈ LL, I64 x := fun x hx => by
          have := hI x hx
          unfold I32 at this; unfold I64; omega
        have ok := redOf_ok LL hI64 (by omega) LL.length
        rw [List.take_of_length_le (Nat.le_refl _)] at ok
        obtain ⟨hrc, hri, hrs⟩ := redOf_sum LL
        have hsb := sumI_bd LL hI
        have hs64 : I64 (redOf LL).s := by rw [hrs]; unfold I64; omega
        have hci : (redOf LL).c = (redOf LL).i := by rw [hrc, hri]
        have h7 := all_rows LL (by omega) hI64 _ u4 wr (by rw [hLL]; exact o1)
        have hgr := hg.below hbr hg.lt z3
        rw [← hrs]
        clear hrs hrc hri hsb hI hI64 o1 hLc hLL hL' hbw hm1 hm2 hm0 hlt hk
        generalize redOf LL = r at *
        have h7' := Lib.hid h7
        have hs5 := Lib.hid (fun W => tell_stats r ok hs64 W)
        have hci' := Lib.hid hci
        have hbr' := Lib.hid hbr
        clear h7 hci hbr
        simp only [rv] at h7' hs5
        go_wp2_with (first
          | (go_at_call 7; refine h7'.out.mono ?_; clear h7'; rintro e w2 ⟨rfl, hb2⟩; have z4 := hb2.size)
          | (go_at_call 9; refine (hs5.out _).mono ?_; clear hs5; rintro e w3 ⟨kb, gk, cp, rfl, hcp, hgk, hkb, kk, hkc, hkl, hb3⟩; have hkc' := Lib.hid hkc; clear hkc; have z5 := hb3.size; simp only [World.size_alloc] at z5))
        generalize hW5 : World.alloc (World.alloc w3 (Obj.cells #[Value.int IntKind.i64 6, Value.int IntKind.i64 0, Value.string { data := #[] }, Value.slice (some { block := gk, off := 0 }) 5 cp, Value.slice (some { block := kb, off := 0 }) 5 5] 39)) (Obj.cells #[Value.int IntKind.i64 1, Value.int IntKind.i64 4, Value.int IntKind.i64 3, Value.int IntKind.i64 1, Value.int IntKind.i64 2] 3) = W5
        have z6 : W5.heap.size = w3.heap.size + 1 + 1 := by rw [← hW5]; simp
        have rb : Blk W5 w2.heap.size (rc r) 30 := by rw [← hW5]; exact (((Blk.new w2 _ _).kept hb3).alloc _).alloc _
        have sb : Blk W5 w3.heap.size #[.int .i64 6, .int .i64 0, .string ⟨#[]⟩, .slice (some ⟨gk, 0, none⟩) 5 cp, .slice (some ⟨kb, 0, none⟩) 5 5] 39 := by rw [← hW5]; exact (Blk.new w3 _ _).alloc _
        have ib : Blk W5 (w3.heap.size + 1) #[.int .i64 1, .int .i64 4, .int .i64 3, .int .i64 1, .int .i64 2] 3 := by rw [← hW5]; exact Blk.new' (by simp)
        have kb5 : Blk W5 kb keysC 9 := by rw [← hW5]; exact (kk.alloc _).alloc _
        have hbl5 : Below w3.heap.size w3 W5 := by rw [← hW5]; go_grown
        have hkc5 := Lib.hid (fun j u (hu : (kidsC (five r))[j]? = some u) => (hbl5.cell (p := ⟨gk, j, none⟩) hkl).trans (hkc'.out j u hu))
        have hB5 : Below w.heap.size w W5 := by
          have a1 := Below.after hbr'.out hb2 z3
          have a2 := Below.after (Below.alloc a1 (by omega) (.cells (rc r) 30)) hb3 (by simp only [World.size_alloc]; omega)
          exact Below.after a2 hbl5 (by omega)
        have hg5 := hg.below hB5 hg.lt (by omega)
        have hgk5 : gk < W5.heap.size := by omega
        have hB5' := Lib.hid hB5
        clear hW5 hkc' kk hbl5 hbr' hb2 hb3 hB5
        go_loopw [64] (fun i wq => ∃ j : Nat, i = .int .i64 (j : Int) ∧ j ≤ 5 ∧ Below W5.heap.size W5 wq) (fun i _ => 5 - (intOf i).toNat)
        case atStart => exact ⟨0, rfl, by omega, Below.refl _ _⟩
        case round =>
          obtain ⟨j, rfl, hj, hq⟩ := hrel
          have z7 := hq.size
          have rbq := rb.kept hq
          have sbq := sb.kept hq
          have a0 := rbq.cell 0
          have a1 := rbq.cell 1
          have a2 := rbq.cell 2
          have a3 := rbq.cell 3
          have a4 := rbq.cell 4
          have a5 := rbq.cell 5
          simp only [rc] at a0 a1 a2 a3 a4 a5
          simp at a0 a1 a2 a3 a4 a5
          by_cases hj5 : j < 5
          · have hjc : j = 0 ∨ j = 1 ∨ j = 2 ∨ j = 3 ∨ j = 4 := by omega
            rcases hjc with rfl | rfl | rfl | rfl | rfl
            · have i0 := (hq.cell (p := ⟨w3.heap.size + 1, 0, none⟩) ib.lt).trans (ib.cell 0)
              have d0 := (hq.cell (p := ⟨gk, 0, none⟩) hgk5).trans (hkc5.out 0 _ rfl)
              have d1 := (hq.cell (p := ⟨gk, 1, none⟩) hgk5).trans (hkc5.out 1 _ rfl)
              have d2 := (hq.cell (p := ⟨gk, 2, none⟩) hgk5).trans (hkc5.out 2 _ rfl)
              have d3 := (hq.cell (p := ⟨gk, 3, none⟩) hgk5).trans (hkc5.out 3 _ rfl)
              have d4 := (hq.cell (p := ⟨gk, 4, none⟩) hgk5).trans (hkc5.out 4 _ rfl)
              simp at i0
              have hT := Lib.hid (fun W => tell_count r ok W)
              have hSm := Lib.hid (fun W => same_leaf (3, r.c) (.inl rfl) W)
              simp only [rv, V5.v, V5.cs] at hT hSm
              have lq : gk < wr.heap.size := by omega
              go_upto_region 20 with (go_at_call 9; refine (hT.out _).mono ?_; rintro e w6 ⟨rfl, hb6⟩; obtain ⟨hc6, hf6⟩ := bcell hb6; have z8 := hb6.size)
              have l6 : gk < w6.heap.size := by omega
              have hS := H5.mk' ((Blk.new w6 _ _)) ((sbq.kept hb6).alloc (.cells (kidC (3, r.c)).toArray 39)) (e0 := (hb6.cell (p := ⟨gk, 0, none⟩) lq).trans d0) (e1 := (hb6.cell (p := ⟨gk, 1, none⟩) lq).trans d1) (e2 := (hb6.cell (p := ⟨gk, 2, none⟩) lq).trans d2) (e3 := (hb6.cell (p := ⟨gk, 3, none⟩) lq).trans d3) (e4 := (hb6.cell (p := ⟨gk, 4, none⟩) lq).trans d4) l6
              have z9 : w3.heap.size < w6.heap.size := by omega
              go_region_held3 (fun w' => H5 w6.heap.size (kidC (3, r.c)).toArray w3.heap.size #[.int .i64 6, .int .i64 0, .string ⟨#[]⟩, .slice (some ⟨gk, 0, none⟩) 5 cp, .slice (some ⟨kb, 0, none⟩) 5 5] gk 0 1 2 3 4 (.int .i64 3) (.int .i64 r.c) (.string ⟨#[]⟩) (.slice none 0 0) (.slice none 0 0) w')
                (first | (with_reducible exact H5.drew hS) | (with_reducible exact H5.kept (by assumption) hb7 (by simp only [World.size_drew, World.size_alloc]; omega)) | (with_reducible assumption))
                (first | (go_at_call 10; refine (hSm.out _).mono ?_; rintro e w7 ⟨rfl, hb7⟩; have z10 := hb7.size))
              go_wp2_with fail
              exact ⟨⟨1, rfl, by omega, Below.after (Below.drew (Below.alloc (Below.after hq hb6 z7) (by omega) _)) hb7 (by simp only [World.size_drew, World.size_alloc]; omega)⟩, by simp [intOf]⟩
            · have i0 := (hq.cell (p := ⟨w3.heap.size + 1, 1, none⟩) ib.lt).trans (ib.cell 1)
              have d0 := (hq.cell (p := ⟨gk, 5, none⟩) hgk5).trans (hkc5.out 5 _ rfl)
              have d1 := (hq.cell (p := ⟨gk, 6, none⟩) hgk5).trans (hkc5.out 6 _ rfl)
              have d2 := (hq.cell (p := ⟨gk, 7, none⟩) hgk5).trans (hkc5.out 7 _ rfl)
              have d3 := (hq.cell (p := ⟨gk, 8, none⟩) hgk5).trans (hkc5.out 8 _ rfl)
              have d4 := (hq.cell (p := ⟨gk, 9, none⟩) hgk5).trans (hkc5.out 9 _ rfl)
              simp at i0
              have hT := Lib.hid (fun W => tell_most r ok W)
              have hSm := Lib.hid (fun W => same_leaf (kd r.i, nn r.i r.m) (kd_leaf r _) W)
              simp only [rv, V5.v, V5.cs] at hT hSm
              have lq : gk < wr.heap.size := by omega
              go_upto_region 20 with (go_at_call 9; refine (hT.out _).mono ?_; rintro e w6 ⟨rfl, hb6⟩; obtain ⟨hc6, hf6⟩ := bcell hb6; have z8 := hb6.size)
              have l6 : gk < w6.heap.size := by omega
              have hS := H5.mk' ((Blk.new w6 _ _)) ((sbq.kept hb6).alloc (.cells (kidC (kd r.i, nn r.i r.m)).toArray 39)) (e0 := (hb6.cell (p := ⟨gk, 5, none⟩) lq).trans d0) (e1 := (hb6.cell (p := ⟨gk, 6, none⟩) lq).trans d1) (e2 := (hb6.cell (p := ⟨gk, 7, none⟩) lq).trans d2) (e3 := (hb6.cell (p := ⟨gk, 8, none⟩) lq).trans d3) (e4 := (hb6.cell (p := ⟨gk, 9, none⟩) lq).trans d4) l6
              have z9 : w3.heap.size < w6.heap.size := by omega
              go_region_held3 (fun w' => H5 w6.heap.size (kidC (kd r.i, nn r.i r.m)).toArray w3.heap.size #[.int .i64 6, .int .i64 0, .string ⟨#[]⟩, .slice (some ⟨gk, 0, none⟩) 5 cp, .slice (some ⟨kb, 0, none⟩) 5 5] gk 5 6 7 8 9 (.int .i64 (kd r.i)) (.int .i64 (nn r.i r.m)) (.string ⟨#[]⟩) (.slice none 0 0) (.slice none 0 0) w')
                (first | (with_reducible exact H5.drew hS) | (with_reducible exact H5.kept (by assumption) hb7 (by simp only [World.size_drew, World.size_alloc]; omega)) | (with_reducible assumption))
                (first | (go_at_call 10; refine (hSm.out _).mono ?_; rintro e w7 ⟨rfl, hb7⟩; have z10 := hb7.size))
              go_wp2_with fail
              exact ⟨⟨2, rfl, by omega, Below.after (Below.drew (Below.alloc (Below.after hq hb6 z7) (by omega) _)) hb7 (by simp only [World.size_drew, World.size_alloc]; omega)⟩, by simp [intOf]⟩
            · have i0 := (hq.cell (p := ⟨w3.heap.size + 1, 2, none⟩) ib.lt).trans (ib.cell 2)
              have d0 := (hq.cell (p := ⟨gk, 10, none⟩) hgk5).trans (hkc5.out 10 _ rfl)
              have d1 := (hq.cell (p := ⟨gk, 11, none⟩) hgk5).trans (hkc5.out 11 _ rfl)
              have d2 := (hq.cell (p := ⟨gk, 12, none⟩) hgk5).trans (hkc5.out 12 _ rfl)
              have d3 := (hq.cell (p := ⟨gk, 13, none⟩) hgk5).trans (hkc5.out 13 _ rfl)
              have d4 := (hq.cell (p := ⟨gk, 14, none⟩) hgk5).trans (hkc5.out 14 _ rfl)
              simp at i0
              have hT := Lib.hid (fun W => tell_least r ok W)
              have hSm := Lib.hid (fun W => same_leaf (kd r.i, nn r.i r.l) (kd_leaf r _) W)
              simp only [rv, V5.v, V5.cs] at hT hSm
              have lq : gk < wr.heap.size := by omega
              go_upto_region 20 with (go_at_call 9; refine (hT.out _).mono ?_; rintro e w6 ⟨rfl, hb6⟩; obtain ⟨hc6, hf6⟩ := bcell hb6; have z8 := hb6.size)
              have l6 : gk < w6.heap.size := by omega
              have hS := H5.mk' ((Blk.new w6 _ _)) ((sbq.kept hb6).alloc (.cells (kidC (kd r.i, nn r.i r.l)).toArray 39)) (e0 := (hb6.cell (p := ⟨gk, 10, none⟩) lq).trans d0) (e1 := (hb6.cell (p := ⟨gk, 11, none⟩) lq).trans d1) (e2 := (hb6.cell (p := ⟨gk, 12, none⟩) lq).trans d2) (e3 := (hb6.cell (p := ⟨gk, 13, none⟩) lq).trans d3) (e4 := (hb6.cell (p := ⟨gk, 14, none⟩) lq).trans d4) l6
              have z9 : w3.heap.size < w6.heap.size := by omega
              go_region_held3 (fun w' => H5 w6.heap.size (kidC (kd r.i, nn r.i r.l)).toArray w3.heap.size #[.int .i64 6, .int .i64 0, .string ⟨#[]⟩, .slice (some ⟨gk, 0, none⟩) 5 cp, .slice (some ⟨kb, 0, none⟩) 5 5] gk 10 11 12 13 14 (.int .i64 (kd r.i)) (.int .i64 (nn r.i r.l)) (.string ⟨#[]⟩) (.slice none 0 0) (.slice none 0 0) w')
                (first | (with_reducible exact H5.drew hS) | (with_reducible exact H5.kept (by assumption) hb7 (by simp only [World.size_drew, World.size_alloc]; omega)) | (with_reducible assumption))
                (first | (go_at_call 10; refine (hSm.out _).mono ?_; rintro e w7 ⟨rfl, hb7⟩; have z10 := hb7.size))
              go_wp2_with fail
              exact ⟨⟨3, rfl, by omega, Below.after (Below.drew (Below.alloc (Below.after hq hb6 z7) (by omega) _)) hb7 (by simp only [World.size_drew, World.size_alloc]; omega)⟩, by simp [intOf]⟩
            · have i0 := (hq.cell (p := ⟨w3.heap.size + 1, 3, none⟩) ib.lt).trans (ib.cell 3)
              have d0 := (hq.cell (p := ⟨gk, 15, none⟩) hgk5).trans (hkc5.out 15 _ rfl)
              have d1 := (hq.cell (p := ⟨gk, 16, none⟩) hgk5).trans (hkc5.out 16 _ rfl)
              have d2 := (hq.cell (p := ⟨gk, 17, none⟩) hgk5).trans (hkc5.out 17 _ rfl)
              have d3 := (hq.cell (p := ⟨gk, 18, none⟩) hgk5).trans (hkc5.out 18 _ rfl)
              have d4 := (hq.cell (p := ⟨gk, 19, none⟩) hgk5).trans (hkc5.out 19 _ rfl)
              simp at i0
              have hT := Lib.hid (fun W => Calls.mono (tell_count r ok W) (fun (e : Ending) (w' : World) h => (⟨h.1.trans (by rw [hci'.out]), h.2⟩ : e = .returned (.tuple #[vInt r.i, .int .i64 0]) ∧ Below W.heap.size W w')))
              have hSm := Lib.hid (fun W => same_leaf (3, r.i) (.inl rfl) W)
              simp only [rv, V5.v, V5.cs] at hT hSm
              have lq : gk < wr.heap.size := by omega
              go_upto_region 20 with (go_at_call 9; refine (hT.out _).mono ?_; rintro e w6 ⟨rfl, hb6⟩; obtain ⟨hc6, hf6⟩ := bcell hb6; have z8 := hb6.size)
              have l6 : gk < w6.heap.size := by omega
              have hS := H5.mk' ((Blk.new w6 _ _)) ((sbq.kept hb6).alloc (.cells (kidC (3, r.i)).toArray 39)) (e0 := (hb6.cell (p := ⟨gk, 15, none⟩) lq).trans d0) (e1 := (hb6.cell (p := ⟨gk, 16, none⟩) lq).trans d1) (e2 := (hb6.cell (p := ⟨gk, 17, none⟩) lq).trans d2) (e3 := (hb6.cell (p := ⟨gk, 18, none⟩) lq).trans d3) (e4 := (hb6.cell (p := ⟨gk, 19, none⟩) lq).trans d4) l6
              have z9 : w3.heap.size < w6.heap.size := by omega
              go_region_held3 (fun w' => H5 w6.heap.size (kidC (3, r.i)).toArray w3.heap.size #[.int .i64 6, .int .i64 0, .string ⟨#[]⟩, .slice (some ⟨gk, 0, none⟩) 5 cp, .slice (some ⟨kb, 0, none⟩) 5 5] gk 15 16 17 18 19 (.int .i64 3) (.int .i64 r.i) (.string ⟨#[]⟩) (.slice none 0 0) (.slice none 0 0) w')
                (first | (with_reducible exact H5.drew hS) | (with_reducible exact H5.kept (by assumption) hb7 (by simp only [World.size_drew, World.size_alloc]; omega)) | (with_reducible assumption))
                (first | (go_at_call 10; refine (hSm.out _).mono ?_; rintro e w7 ⟨rfl, hb7⟩; have z10 := hb7.size))
              go_wp2_with fail
              exact ⟨⟨4, rfl, by omega, Below.after (Below.drew (Below.alloc (Below.after hq hb6 z7) (by omega) _)) hb7 (by simp only [World.size_drew, World.size_alloc]; omega)⟩, by simp [intOf]⟩
            · have i0 := (hq.cell (p := ⟨w3.heap.size + 1, 4, none⟩) ib.lt).trans (ib.cell 4)
              have d0 := (hq.cell (p := ⟨gk, 20, none⟩) hgk5).trans (hkc5.out 20 _ rfl)
              have d1 := (hq.cell (p := ⟨gk, 21, none⟩) hgk5).trans (hkc5.out 21 _ rfl)
              have d2 := (hq.cell (p := ⟨gk, 22, none⟩) hgk5).trans (hkc5.out 22 _ rfl)
              have d3 := (hq.cell (p := ⟨gk, 23, none⟩) hgk5).trans (hkc5.out 23 _ rfl)
              have d4 := (hq.cell (p := ⟨gk, 24, none⟩) hgk5).trans (hkc5.out 24 _ rfl)
              simp at i0
              have hT := Lib.hid (fun W => tell_sum r ok hs64 W)
              have hSm := Lib.hid (fun W => same_leaf (3, r.s) (.inl rfl) W)
              simp only [rv, V5.v, V5.cs] at hT hSm
              have lq : gk < wr.heap.size := by omega
              go_upto_region 20 with (go_at_call 9; refine (hT.out _).mono ?_; rintro e w6 ⟨rfl, hb6⟩; obtain ⟨hc6, hf6⟩ := bcell hb6; have z8 := hb6.size)
              have l6 : gk < w6.heap.size := by omega
              have hS := H5.mk' ((Blk.new w6 _ _)) ((sbq.kept hb6).alloc (.cells (kidC (3, r.s)).toArray 39)) (e0 := (hb6.cell (p := ⟨gk, 20, none⟩) lq).trans d0) (e1 := (hb6.cell (p := ⟨gk, 21, none⟩) lq).trans d1) (e2 := (hb6.cell (p := ⟨gk, 22, none⟩) lq).trans d2) (e3 := (hb6.cell (p := ⟨gk, 23, none⟩) lq).trans d3) (e4 := (hb6.cell (p := ⟨gk, 24, none⟩) lq).trans d4) l6
              have z9 : w3.heap.size < w6.heap.size := by omega
              go_region_held3 (fun w' => H5 w6.heap.size (kidC (3, r.s)).toArray w3.heap.size #[.int .i64 6, .int .i64 0, .string ⟨#[]⟩, .slice (some ⟨gk, 0, none⟩) 5 cp, .slice (some ⟨kb, 0, none⟩) 5 5] gk 20 21 22 23 24 (.int .i64 3) (.int .i64 r.s) (.string ⟨#[]⟩) (.slice none 0 0) (.slice none 0 0) w')
                (first | (with_reducible exact H5.drew hS) | (with_reducible exact H5.kept (by assumption) hb7 (by simp only [World.size_drew, World.size_alloc]; omega)) | (with_reducible assumption))
                (first | (go_at_call 10; refine (hSm.out _).mono ?_; rintro e w7 ⟨rfl, hb7⟩; have z10 := hb7.size))
              go_wp2_with fail
              exact ⟨⟨5, rfl, by omega, Below.after (Below.drew (Below.alloc (Below.after hq hb6 z7) (by omega) _)) hb7 (by simp only [World.size_drew, World.size_alloc]; omega)⟩, by simp [intOf]⟩
          · obtain rfl : j = 5 := by omega
            have b0 := sbq.cell 0
            have b1 := sbq.cell 1
            have b2 := sbq.cell 2
            have b3 := sbq.cell 3
            have b4 := sbq.cell 4
            simp at b0 b1 b2 b3 b4
            have e1 := (hq.cell (p := ⟨gk, 21, none⟩) hgk5).trans (hkc5.out 21 _ rfl)
            have hq' := Lib.hid hq
            have hC := Lib.hid (fun (W : World) (hW : Below wr.heap.size wr W) => check_stats r gk cp kb W (kb5.below (Below.after hq' hW z7) kb5.lt) (fun j u hu => ((Below.after hq' hW z7).cell (p := ⟨gk, j, none⟩) hgk5).trans (hkc5.out j u hu)) (by have := hW.size; omega) (hg5.below (Below.after hq' hW z7) hg5.lt (by have := hW.size; omega)))
            simp only [V5.v, V5.cs] at hC
            go_wp2_with (go_at_call 11; refine (hC.out _ (Below.refl _ _)).mono ?_; rintro e w6 ⟨rfl, hb6⟩)
            refine bodyPost_ret (v := .bool true) (by simp [results, Tryd.results4, go_sem]) rfl ⟨rfl, ?_⟩
            exact Below.after (Below.after hB5'.out hq (by omega)) hb6 (by omega)

end Go.Proofs.YtmleipmilmeclaaDoor
