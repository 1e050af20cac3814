/- Walk: MonoidComes. -/
import Derived.Test.YtmleipmilmeclaaDoorWp
namespace Go.Proofs.YtmleipmilmeclaaDoor
open Go.RowKit
attribute [local go_sem ↓] Go.wp_at_zero Go.wp_at_succ

theorem info27 : (Tryd.prog.info? 27).map (fun i => (i.zero, i.size, i.bytes)) = some (some (.agg #[.slice none 0 0, .slice none 0 0, .bool false, .int .i64 0]), 4, 64) := by kernel_rfl

/-- The number that a row is made of. -/
def low (n : Int) : Int := max n (-9223372036854775807)

structure CRel (w : World) (L : List Int) (k : Nat) (v1 v2 : Value) (wr : World) : Prop where
  o1 : wr.ownsRow w.heap.size 27 4 v1 k (items (L.take k))
  o2 : wr.ownsRow w.heap.size 27 4 v2 k (items ((L.take k).map fun n => -n))
  ne : ∀ b, v1.ownBlock = some b → v2.ownBlock ≠ some b
  bl : Below w.heap.size w wr

theorem own_lt {w : World} {base : Nat} {e : TypeId} {size : Nat} {v : Value} {n : Nat} {xs : List Value} (h : w.ownsRow base e size v n xs) {b : Nat} (hb : v.ownBlock = some b) : base ≤ b ∧ b < w.heap.size := by
  rcases h.2 with ⟨rfl, _⟩ | ⟨g, cap, cur, rfl, hg, hgg, _⟩
  · simp [Value.ownBlock] at hb
  · obtain rfl : g = b := by simpa [Value.ownBlock] using hb
    exact ⟨hg, (Array.getElem?_eq_some_iff.1 hgg).1⟩

theorem own_after {w w' : World} {base : Nat} {e : TypeId} {size : Nat} {v : Value} {n : Nat} {xs : List Value} (h : w.ownsRow base e size v n xs) (hb : Below w.heap.size w w') : w'.ownsRow base e size v n xs :=
  h.kept (row := none) ⟨hb.os, hb.tape, hb.output, hb.size, fun k hk _ => hb.block k hk⟩ (by cases hv : v.ownBlock <;> simp)

/-- Two rows, one element more each. -/
theorem CRel.next {w : World} {L : List Int} {k : Nat} {v1 v2 : Value} {wr wa wb : World} {y : Int} {t1 t2 : Array Value} {T1 T2 : TypeId} {g1 g2 cap1 cap2 : Nat}
    (o1 : wr.ownsRow w.heap.size 27 4 v1 k (items (L.take k))) (o2 : wr.ownsRow w.heap.size 27 4 v2 k (items ((L.take k).map fun n => -n))) (ne : ∀ b, v1.ownBlock = some b → v2.ownBlock ≠ some b) (hbl : Below w.heap.size w wr)
    (q1 : items (L.take (k + 1)) = items (L.take k) ++ [.slice none 0 0, .slice none 0 0, .bool true, .int .i64 y]) (q2 : items ((L.take (k + 1)).map fun n => -n) = items ((L.take k).map fun n => -n) ++ [.slice none 0 0, .slice none 0 0, .bool true, .int .i64 (-y)])
    (hown1 : wa.ownsRow w.heap.size 27 4 (.slice (some ⟨g1, 0, none⟩) (k + 1) cap1) (k + 1) (items (L.take k) ++ [.slice none 0 0, .slice none 0 0, .bool true, .int .i64 y])) (hgrow1 : (wr.alloc (.cells t1 T1)).grownBy wa v1.ownBlock) (hat1 : v1.ownBlock = some g1 ∨ g1 = wr.heap.size + 1) (hlt1 : g1 < wa.heap.size)
    (hown2 : wb.ownsRow w.heap.size 27 4 (.slice (some ⟨g2, 0, none⟩) (k + 1) cap2) (k + 1) (items ((L.take k).map fun n => -n) ++ [.slice none 0 0, .slice none 0 0, .bool true, .int .i64 (-y)])) (hgrow2 : (wa.alloc (.cells t2 T2)).grownBy wb v2.ownBlock) (hat2 : v2.ownBlock = some g2 ∨ g2 = wa.heap.size + 1) :
    CRel w L (k + 1) (.slice (some ⟨g1, 0, none⟩) (k + 1) cap1) (.slice (some ⟨g2, 0, none⟩) (k + 1) cap2) wb := by
  have hs1 := hgrow1.size
  have hs2 := hgrow2.size
  have hs := hbl.size
  simp only [World.size_alloc] at hs1 hs2
  have h12 : v2.ownBlock ≠ some g1 := by
    intro e
    rcases hat1 with h | h
    · exact ne g1 h e
    · have := (own_lt o2 e).2
      omega
  refine ⟨?_, ?_, ?_, ?_⟩
  · rw [q1]
    exact (hown1.alloc _).kept hgrow2 (.inr fun e => h12 (by rw [← e]; rfl))
  · rw [q2]; exact hown2
  · intro b hb hb2
    obtain rfl : g1 = b := by simpa [Value.ownBlock] using hb
    obtain rfl : g2 = g1 := by simpa [Value.ownBlock] using hb2
    rcases hat2 with h | h
    · exact h12 h
    · omega
  · refine Below.grown ((Below.grown (hbl.alloc hs _) hgrow1 (by go_size) fun b hb => (own_lt o1 hb).1).alloc (by omega) _) hgrow2 (by go_size) fun b hb => (own_lt o2 hb).1

set_option maxRecDepth 100000 in
set_option maxHeartbeats 8000000 in
theorem comes_any (n cap b off : Nat) (hn0 : 0 < n) (hn : n ≤ 9223372036854775807) (hcap : n ≤ cap) (_hcm : cap ≤ maxLen) (w : World) (hL : ∀ j, j < n → ∃ x, w.cell? ⟨b, off + j, none⟩ = some (.int .i64 x) ∧ I64 x) :
    Calls Tryd.prog 3 #[.slice (some ⟨b, off, none⟩) n cap] w fun e w' => e = .returned (.bool true) ∧ Below w.heap.size w w' := by
  go_enter Tryd.func3, Tryd.ntmps3
  have hL' := Lib.hid hL
  clear hL
  go_upto_region 3 with (go_at_call 6; refine (wakes_any _).mono ?_; rintro e w1 ⟨rfl, hb1⟩; obtain ⟨hc1, hf1⟩ := bcell hb1; have z1 := hb1.size)
  go_cut [3] (fun v wx => ∃ m, v = .slice (some ⟨b, off, none⟩) m cap ∧ 0 < m ∧ m ≤ 60 ∧ m ≤ n ∧ Below w.heap.size w wx)
  case first =>
    go_wp2_with fail
    all_goals go_meet
    all_goals exact ⟨_, rfl, by omega, by omega, by omega, hb1⟩
  case rest =>
    obtain ⟨m, rfl, hm0, hm1, hm2, hbw⟩ := hcut
    have z2 := hbw.size
    obtain ⟨LL, hLL, hLc⟩ : ∃ LL : List Int, LL.length = m ∧ ∀ j (hj : j < LL.length), I63 LL[j] ∧ ∃ x, w.cell? ⟨b, off + j, none⟩ = some (.int .i64 x) ∧ LL[j] = max x (-9223372036854775807) := by
      have : ∀ m, m ≤ n → ∃ LL : List Int, LL.length = m ∧ ∀ j (hj : j < LL.length), I63 LL[j] ∧ ∃ x, w.cell? ⟨b, off + j, none⟩ = some (.int .i64 x) ∧ LL[j] = max x (-9223372036854775807) := by
        intro m
        induction m with
        | zero => intro _; exact ⟨[], rfl, fun j hj => by simp at hj⟩
        | succ m ih =>
          intro hm
          obtain ⟨LL, h1, h2⟩ := ih (by omega)
          obtain ⟨x, hx, hi⟩ := hL'.out m (by omega)
          refine ⟨LL ++ [max x (-9223372036854775807)], by simp [h1], fun j hj => ?_⟩
          by_cases hj2 : j < LL.length
          · rw [List.getElem_append_left hj2]; exact h2 j hj2
          · have : j = m := by simp at hj; omega
            subst this
            rw [List.getElem_append_right (by omega)]
            simp only [h1, Nat.sub_self, List.getElem_cons_zero]
            exact ⟨by unfold I63 I64 at *; omega, x, hx, rfl⟩
      exact this m hm2
    go_wp2_with fail
    go_loopw [4, 5, 25] (fun v1 v2 i wr => ∃ k : Nat, i = .int .i64 (k : Int) ∧ k ≤ m ∧ CRel w LL k v1 v2 wr) (fun _ _ i _ => m - (intOf i).toNat)
    case atStart => exact ⟨0, rfl, by omega, by simpa [items] using World.ownsRow_nil _ _ _ _, by simpa [items] using World.ownsRow_nil _ _ _ _, by simp [Value.ownBlock], hbw⟩
    case round =>
      obtain ⟨k, rfl, hk, o1, o2, ne, hbr⟩ := hrel
      have z3 := hbr.size
      by_cases hlt : k < m
      · obtain ⟨hy, x, hx, hxy⟩ := hLc k (by omega)
        have hbx : b < w.heap.size := World.block_lt_of_cell? w ⟨b, off + k, none⟩ hx
        have hx' := (hbr.cell (p := ⟨b, off + k, none⟩) hbx).trans hx
        have ht : LL.take (k + 1) = LL.take k ++ [LL[k]] := List.take_succ_eq_append_getElem (by omega)
        have hp1 : items (LL.take (k + 1)) = items (LL.take k) ++ [.slice none 0 0, .slice none 0 0, .bool true, .int .i64 LL[k]] := by rw [ht, items_snoc]
        have hp2 : items ((LL.take (k + 1)).map fun n => -n) = items ((LL.take k).map fun n => -n) ++ [.slice none 0 0, .slice none 0 0, .bool true, .int .i64 (-LL[k])] := by rw [ht, List.map_append, List.map_cons, List.map_nil, items_snoc]
        have hq1 := Lib.hid hp1
        have hq2 := Lib.hid hp2
        generalize LL[k] = y at *
        have ho1 := Lib.hid o1
        have ho2 := Lib.hid o2
        have hne := Lib.hid ne
        have hbr' := Lib.hid hbr
        have hLc' := Lib.hid hLc
        have hLL' := Lib.hid hLL
        obtain ⟨i0, hi, hz0, hz1, hz2⟩ := info_parts info27
        unfold I63 at hy
        clear ht hp1 hp2 o1 o2 ne hx hbr hLc hLL
        have hcase : x < -9223372036854775807 ∧ y = -9223372036854775807 ∨ -9223372036854775807 ≤ x ∧ y = x := by omega
        clear hxy
        rcases hcase with ⟨hx1, rfl⟩ | ⟨hx1, rfl⟩
        all_goals go_wp2_with (first
          | (at_builtin; refine wpList_append_lies _ rfl (.tmp 31) (.tmp 34) 24 rfl w.heap.size 27 i0 _ 4 64 Tryd.underlying24 hi hz0 hz1 hz2 rfl (by decide) _ k _ rfl (ho1.out.alloc _) ⟨wr.heap.size, 0, none⟩ 1 1 [.slice none 0 0, .slice none 0 0, .bool true, .int .i64 _] rfl rfl (World.news_of_block (Blk.new _ _ _)) (by simp [Value.oneCell']) (by decide) (by unfold maxLen; omega) (by omega) (by go_size) (wr.heap.size + 1) (by simp) ?_; intro g1 cap1 wa hown1 hgrow1 hat1 hlt1)
          | (at_builtin; refine wpList_append_lies _ rfl (.tmp 36) (.tmp 40) 24 rfl w.heap.size 27 i0 _ 4 64 Tryd.underlying24 hi hz0 hz1 hz2 rfl (by decide) _ k _ rfl (World.ownsRow.alloc ((ho2.out.alloc _).kept hgrow1 (by cases h2 : u5.ownBlock with | none => exact .inl rfl | some b2 => exact .inr (fun e => hne.out b2 e.symm h2))) _) ⟨wa.heap.size, 0, none⟩ 1 1 [.slice none 0 0, .slice none 0 0, .bool true, .int .i64 _] rfl rfl (World.news_of_block (Blk.new _ _ _)) (by simp [Value.oneCell']) (by decide) (by unfold maxLen; omega) (by omega) (by have := hgrow1.size; simp only [World.size_alloc] at this ⊢; omega) (wa.heap.size + 1) (by simp) ?_; intro g2 cap2 wb hown2 hgrow2 hat2 hlt2))
        all_goals go_roundw
        case rel => exact ⟨k + 1, by simp, by omega, CRel.next ho1.out ho2.out hne.out hbr'.out hq1.out hq2.out hown1 hgrow1 hat1 hlt1 hown2 hgrow2 hat2⟩
        case rel => exact ⟨k + 1, by simp, by omega, CRel.next ho1.out ho2.out hne.out hbr'.out hq1.out hq2.out hown1 hgrow1 hat1 hlt1 hown2 hgrow2 hat2⟩
        all_goals (simp [intOf]; omega)
      · obtain rfl : k = m := by omega
        rw [List.take_of_length_le (by omega)] at o1 o2
        have hI : ∀ x ∈ LL, I63 x := fun x hx => by
          obtain ⟨j, hj, rfl⟩ := List.getElem_of_mem hx
          exact (hLc j hj).1
        have hJ : ∀ x ∈ LL.map fun n => -n, I63 x := fun x hx => by
          obtain ⟨y, hy, rfl⟩ := List.mem_map.1 hx
          exact (hI y hy).neg
        have ok1 := redOf_ok LL (fun x hx => (hI x hx).i64) (by omega) LL.length
        have ok2 := redOf_ok (LL.map fun n => -n) (fun x hx => (hJ x hx).i64) (by simp; omega) (LL.map fun n => -n).length
        have cc1 := redOf_c LL LL.length
        have cc2 := redOf_c (LL.map fun n => -n) (LL.map fun n => -n).length
        rw [List.take_of_length_le (Nat.le_refl _)] at ok1 ok2 cc1 cc2
        rw [List.length_map] at cc2
        obtain ⟨s0, sl, sm⟩ := (turned LL hI).sum
        have h7a := all_rows LL (by omega) (fun x hx => (hI x hx).i64) _ u4 wr (by rw [hLL]; exact o1)
        have h7b : ∀ W, Below wr.heap.size wr W → _ := fun W hW => all_rows (LL.map fun n => -n) (by simp; omega) (fun x hx => (hJ x hx).i64) _ u5 W (by rw [List.length_map, hLL]; exact own_after o2 hW)
        generalize redOf LL = ra at *
        generalize redOf (LL.map fun n => -n) = rb at *
        have h8 := fun b W h => join2 ra rb ok1 ok2 (by omega) b W h
        have okq := ok1.both ok2 (by omega)
        generalize ra.both rb = q at *
        have h9 := fun W => tell_sum q okq (by rw [s0]; unfold I64; omega) W
        rw [s0] at h9
        have h7a' := Lib.hid h7a
        have h7b' := Lib.hid h7b
        have h8' := Lib.hid h8
        have h9' := Lib.hid h9
        have hbr' := Lib.hid hbr
        unfold I63 at sm
        obtain ⟨qc, qi, qs, ql, qm⟩ := q
        simp only at sl sm s0
        subst ql qs
        clear h7a h7b h8 h9 hI hJ ok1 ok2 okq cc1 cc2 o1 o2 ne hLc hLL hL' hbw hbr hm1 hm2
        obtain ⟨ac, ai, asu, al, am⟩ := ra
        obtain ⟨bc, bi, bsu, bl, bm⟩ := rb
        simp only [rv] at h7a' h7b' h8' h9'
        go_wp2_with (first
          | (go_at_call_of 7 u4; refine h7a'.out.mono ?_; clear h7a'; rintro e w2 ⟨rfl, hb2⟩; have z4 := hb2.size)
          | (go_at_call_of 7 u5; refine (h7b'.out _ (Below.alloc hb2 (by omega) _)).mono ?_; clear h7b'; rintro e w3 ⟨rfl, hb3⟩; obtain ⟨hc3, hf3⟩ := bcell hb3; have z5 := hb3.size; simp only [World.size_alloc] at z5 hc3 hf3; (have y5 : w2.heap.size < w3.heap.size := by omega))
          | (go_at_call 8; refine (h8'.out _ _ (by first | exact Blk.new' (by simp; done) | exact Blk.alloc (Blk.new' (by simp; done)) _)).mono ?_; clear h8'; rintro e w4 ⟨rfl, hb4⟩; have z6 := hb4.size)
          | (go_at_call 9; refine (h9'.out _).mono ?_; clear h9'; rintro e w5 ⟨rfl, hb5⟩; obtain ⟨hc5, hf5⟩ := bcell hb5; have z7 := hb5.size; simp only [World.size_alloc] at z7 hc5 hf5; (have y7 : w4.heap.size < w5.heap.size := by omega))
          | (go_at_call 10; refine (same_int 0 0 _).mono ?_; rintro e w6 ⟨rfl, hb6⟩; obtain ⟨hc6, hf6⟩ := bcell hb6; have z8 := hb6.size; simp only [World.size_alloc] at z8 hc6 hf6; (have y8 : w4.heap.size < w6.heap.size := by omega); (have y9 : w4.heap.size < w5.heap.size + 1 := by omega)))
        go_ret
        refine ⟨rfl, ?_⟩
        have hbr := hbr'.out
        clear hbr' hlt hk hm0
        have s1 : w.heap.size ≤ w2.heap.size := by omega
        have s2 : w.heap.size ≤ w3.heap.size := by omega
        have s3 : w.heap.size ≤ w4.heap.size := by simp only [World.size_alloc] at z6; omega
        have s4 : w.heap.size ≤ w5.heap.size := by omega
        have a1 : Below w.heap.size w w2 := Below.after hbr hb2 z3
        have a2 := Below.after (Below.alloc a1 s1 _) hb3 (by simp only [World.size_alloc]; omega)
        have a3 := Below.after (Below.alloc (Below.alloc a2 s2 _) (by simp only [World.size_alloc]; omega) _) hb4 (by simp only [World.size_alloc]; omega)
        have a4 := Below.after (Below.alloc a3 s3 _) hb5 (by simp only [World.size_alloc]; omega)
        exact Below.after (Below.alloc a4 s4 _) hb6 (by simp only [World.size_alloc]; omega)

end Go.Proofs.YtmleipmilmeclaaDoor
