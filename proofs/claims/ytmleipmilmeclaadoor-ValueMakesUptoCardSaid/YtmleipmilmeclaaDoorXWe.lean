/- Walks: Join. -/
import Derived.Test.YtmleipmilmeclaaDoorXWc
import Derived.Test.YtmleipmilmeclaaDoorXWd
import Derived.Laws.EntriesVeiled
namespace Go.Proofs.YtmleipmilmeclaaDoor
open Go.RowKit
attribute [local go_sem ↓] Go.wp_at_zero Go.wp_at_succ

/-- a reduction lies in block b from o on -/
structure RedAt (w : World) (b o : Nat) (r : R) : Prop where
  a0 : w.cell? ⟨b, o, none⟩ = some (.int .i64 r.c)
  a1 : w.cell? ⟨b, o + 1, none⟩ = some (.int .i64 r.i)
  a2 : w.cell? ⟨b, o + 2, none⟩ = some (.int .i64 (hi r.s))
  a3 : w.cell? ⟨b, o + 3, none⟩ = some (.int .u64 (lo r.s))
  a4 : w.cell? ⟨b, o + 4, none⟩ = some (.int .i64 r.l)
  a5 : w.cell? ⟨b, o + 5, none⟩ = some (.int .i64 r.m)
def Reds (w : World) (b : Nat) (L : List R) : Prop := b < w.heap.size ∧ ∀ k (h : k < L.length), RedAt w b (k * 6) L[k]
theorem RedAt.kept {w w' : World} {B b o : Nat} {r : R} (h : RedAt w b o r) (hb : Below B w w') (hl : b < B) : RedAt w' b o r := by
  constructor <;> rw [hb.cell (by exact hl)]
  · exact h.a0
  · exact h.a1
  · exact h.a2
  · exact h.a3
  · exact h.a4
  · exact h.a5

def foldR (L : List R) : R := L.foldl R.both R.zero
abbrev zR : Array Value := #[.int .i64 0, .int .i64 0, .int .i64 0, .int .u64 0, .int .i64 0, .int .i64 0]

def JoinRel1 (w : World) (n : Nat) (i e : Value) (wr : World) : Prop :=
  ∃ k : Nat, k ≤ n ∧ i = .int .i64 k ∧ e = .int .i64 0 ∧ Below w.heap.size w wr ∧ Blk wr w.heap.size zR 30 ∧ Blk wr (w.heap.size + 1) zR 30

theorem foldR_snoc (L : List R) (j : Nat) (h : j < L.length) : foldR (L.take (j + 1)) = (foldR (L.take j)).both L[j] := by
  unfold foldR
  rw [List.take_succ_eq_append_getElem h, List.foldl_append]; rfl
theorem foldR_ok (L : List R) (hL : ∀ r ∈ L, R.Ok r) (hC : ∀ j, (foldR (L.take j)).c ≤ 1073741824) (j : Nat) : (foldR (L.take j)).Ok := by
  induction j with
  | zero => exact R.Ok.zero
  | succ j ih =>
    by_cases h : j < L.length
    · have hc := hC (j + 1)
      rw [foldR_snoc L j h] at hc ⊢
      rw [R.both_c] at hc
      exact ih.both (hL _ (List.getElem_mem h)) hc
    · have e1 : L.take (j + 1) = L.take j := by rw [List.take_of_length_le (by omega), List.take_of_length_le (by omega)]
      rw [e1]; exact ih
theorem rv_zero : #[Value.int .i64 R.zero.c, .int .i64 R.zero.i, .int .i64 (hi R.zero.s), .int .u64 (lo R.zero.s), .int .i64 R.zero.l, .int .i64 R.zero.m] = zR := by
  simp [R.zero, hi_zero, lo_zero]
theorem Blk.six {w : World} {b : Nat} {cs : Array Value} {T : TypeId} (h : Blk w b cs T) (x0 x1 x2 x3 x4 x5 : Value) (hcs : cs.size = 6 := by rfl) :
    Blk ((((((w.setCell ⟨b, 0, none⟩ x0).setCell ⟨b, 1, none⟩ x1).setCell ⟨b, 2, none⟩ x2).setCell ⟨b, 3, none⟩ x3).setCell ⟨b, 4, none⟩ x4).setCell ⟨b, 5, none⟩ x5) b #[x0, x1, x2, x3, x4, x5] T := by
  obtain ⟨l⟩ := cs
  match l, hcs with
  | [_, _, _, _, _, _], _ => exact (((((h.set 0 x0).set 1 x1).set 2 x2).set 3 x3).set 4 x4).set 5 x5
abbrev rc (r : R) : Array Value := #[.int .i64 r.c, .int .i64 r.i, .int .i64 (hi r.s), .int .u64 (lo r.s), .int .i64 r.l, .int .i64 r.m]
def JoinRel2 (w : World) (L : List R) (n : Nat) (i : Value) (wr : World) : Prop :=
  ∃ k : Nat, k ≤ n ∧ i = .int .i64 k ∧ Below w.heap.size w wr ∧ Blk wr w.heap.size zR 30 ∧ Blk wr (w.heap.size + 1) (rc (foldR (L.take k))) 30

set_option maxHeartbeats 1000000 in
theorem join_any (L : List R) (n b : Nat) (hlen : L.length = n) (hL : ∀ r ∈ L, R.Ok r) (w : World) (hn : n ≤ 1000) (hR : Reds w b L) (hC : ∀ j, (foldR (L.take j)).c ≤ 1073741824) :
    Calls Tryd.prog 8 #[.slice (some ⟨b, 0, none⟩) n n] w fun e w' => e = .returned (.tuple #[rv (foldR L), .int .i64 0]) ∧ Below w.heap.size w w' := by
  obtain ⟨hb0, hR⟩ := hR
  have HR := Lib.hid hR
  have HL := Lib.hid hL
  have Hlen := Lib.hid hlen
  have HC := Lib.hid hC
  have HO := Lib.hid (fun j => foldR_ok L hL hC j)
  clear hR hL hlen hC
  go_enter Tryd.func8, Tryd.ntmps8
  go_wp2
  go_step3
  go_wp2
  go_step3
  go_wp2
  go_loopw [13, 4] (fun i e wr => JoinRel1 w n i e wr) (fun i _ _ => n - (intOf i).toNat)
  case atStart => exact ⟨0, by omega, rfl, rfl, by go_grown, (Blk.new w _ _).alloc _, Blk.new' (by simp)⟩
  case round =>
    obtain ⟨k, hk, rfl, rfl, hbw, k1, k2⟩ := hrel
    by_cases hlt : k < n
    · have hlt' : k < L.length := by rw [Hlen.out]; exact hlt
      obtain ⟨a0, a1, a2, a3, a4, a5⟩ := (HR.out k hlt').kept hbw hb0
      have hok := HL.out L[k] (List.getElem_mem hlt')
      generalize L[k] = r at *
      have hck := Lib.hid (check_ok r hok)
      obtain ⟨c, i, s, l, m⟩ := r
      simp only [rv] at *
      clear hok hlt'
      go_wp2_with fail
      refine (hck.out _).mono ?_; rintro e w1 ⟨rfl, hb1⟩; obtain ⟨hc1, hf1⟩ := bcell hb1
      go_wp2_with fail
      go_roundw
      case rel => exact ⟨k + 1, by omega, by go_num, rfl, Below.after (hbw.alloc (by have := hbw.size; omega) _) hb1 (by have := hbw.size; go_size), (k1.alloc _).kept hb1, (k2.alloc _).kept hb1⟩
      case measure => simp [intOf]; omega
    · have hkn : k = n := by omega
      subst hkn
      clear hlt hk
      go_wp2_with fail
      obtain ⟨wo, rfl⟩ : ∃ wo, wo = wr := ⟨_, rfl⟩
      go_loopw [28] (fun i wr => JoinRel2 w L k i wr) (fun i _ => k - (intOf i).toNat)
      case atStart => exact ⟨0, by omega, rfl, hbw, k1, by rw [show rc (foldR (L.take 0)) = zR from rv_zero]; exact k2⟩
      case round =>
        obtain ⟨j, hj, rfl, hbw', k1', k2'⟩ := hrel
        have z0 := hbw'.size
        have l1 := k1'.lt
        have l2 := k2'.lt
        by_cases hlt : j < k
        · have hlt' : j < L.length := by rw [Hlen.out]; exact hlt
          have hs := Lib.hid (foldR_snoc L j hlt')
          obtain ⟨a0, a1, a2, a3, a4, a5⟩ := (HR.out j hlt').kept hbw' hb0
          have hok := HL.out L[j] (List.getElem_mem hlt')
          have hq := HO.out j
          have hq1 := HO.out (j + 1)
          rw [hs.out] at hq1
          have hcc := hq1.c1
          rw [R.both_c] at hcc
          have hbt := both_any (foldR (L.take j)) L[j] hq.toNum hok.toNum (by
            have := hq.sum_bd; have := hok.sum_bd; have := hq.i1; have := hq.c1; have := hok.i1; have := hok.c1
            unfold S120; omega)
          generalize L[j] = r at *
          generalize foldR (L.take j) = q at *
          obtain ⟨c, i, s, l, m⟩ := r
          obtain ⟨c', i', s', l', m'⟩ := q
          have m0 := hok.c0
          have m1 := hok.c1
          have m2 := hq.c0
          have m3 := hq.c1
          have q0 := k2'.cell 0
          have q1 := k2'.cell 1
          have q2 := k2'.cell 2
          have q3 := k2'.cell 3
          have q4 := k2'.cell 4
          have q5 := k2'.cell 5
          have f0 := k2'.frozen 0
          have f1 := k2'.frozen 1
          have f2 := k2'.frozen 2
          have f3 := k2'.frozen 3
          have f4 := k2'.frozen 4
          have f5 := k2'.frozen 5
          simp only [rv, rc] at *
          simp at q0 q1 q2 q3 q4 q5
          have hbt := Lib.hid hbt
          clear hok hlt' hq hq1
          go_wp2_with fail
          refine (hbt.out _).mono ?_; rintro e w1 ⟨rfl, hb1⟩; obtain ⟨hc1, hf1⟩ := bcell hb1
          have z1 := hb1.size
          simp only [World.size_alloc] at z1
          go_wp2_with fail
          go_roundw
          case rel =>
            refine ⟨j + 1, by omega, by go_num, ?_, ?_, ?_⟩
            · repeat' (first | (with_reducible exact hbw') | (with_reducible exact Below.refl _ _) | (with_reducible refine Below.alloc ?_ (by go_size) _) | (with_reducible refine Below.drew ?_) | (with_reducible refine Below.set ?_ (by omega) _) | (with_reducible refine Below.after ?_ (by with_reducible assumption) (by go_size)))
            · repeat' (first | (with_reducible exact k1') | (with_reducible refine Blk.off ?_ _ (by omega)) | (with_reducible refine Blk.alloc ?_ _) | (with_reducible refine Blk.kept ?_ hb1))
            · rw [hs.out]
              exact Blk.six ((k2'.alloc _).kept hb1) _ _ _ _ _ _
          case measure => simp [intOf]; omega
        · have hjk : j = k := by omega
          subst hjk
          have e1 : foldR (L.take j) = foldR L := by rw [List.take_of_length_le (by rw [Hlen.out]; omega)]
          rw [e1] at k2'
          clear hlt hj e1
          generalize hq : foldR L = q at *
          have Hq := Lib.hid hq
          clear hq
          obtain ⟨c', i', s', l', m'⟩ := q
          have q0 := k2'.cell 0
          have q1 := k2'.cell 1
          have q2 := k2'.cell 2
          have q3 := k2'.cell 3
          have q4 := k2'.cell 4
          have q5 := k2'.cell 5
          have p0 := k1'.cell 0
          have p1 := k1'.cell 1
          have p2 := k1'.cell 2
          have p3 := k1'.cell 3
          have p4 := k1'.cell 4
          have p5 := k1'.cell 5
          have f0 := k1'.frozen 0
          have f1 := k1'.frozen 1
          have f2 := k1'.frozen 2
          have f3 := k1'.frozen 3
          have f4 := k1'.frozen 4
          have f5 := k1'.frozen 5
          simp only [rc] at *
          simp at q0 q1 q2 q3 q4 q5 p0 p1 p2 p3 p4 p5
          go_wp2_with fail
          rw [Exit.noGoto_ret]
          refine bodyPost_ret (v := .tuple #[rv ⟨c', i', s', l', m'⟩, .int .i64 0]) (by simp [results, Tryd.results8, go_sem, *]) rfl ⟨by rw [Hq.out], ?_⟩
          repeat' (first | (with_reducible exact hbw') | (with_reducible exact Below.refl _ _) | (with_reducible refine Below.alloc ?_ (by go_size) _) | (with_reducible refine Below.drew ?_) | (with_reducible refine Below.set ?_ (by omega) _) | (with_reducible refine Below.after ?_ (by with_reducible assumption) (by go_size)))
end Go.Proofs.YtmleipmilmeclaaDoor

/- Walks: all, the reduction of rows with numbers. -/
namespace Go.Proofs.YtmleipmilmeclaaDoor
open Go.RowKit
attribute [local go_sem ↓] Go.wp_at_zero Go.wp_at_succ

theorem zero_both {r : R} (h : r.Ok) : R.zero.both r = r := by
  have hf := h.fine
  unfold R.fine at hf
  obtain ⟨c, i, s, l, m⟩ := r
  simp only at hf
  unfold R.both R.zero
  by_cases h0 : i = 0
  · rw [if_pos h0] at hf; obtain ⟨rfl, rfl, rfl⟩ := hf; subst h0; simp
  · simp [h0]
theorem reds2 {w : World} {b : Nat} {T : TypeId} {r t : R} (h : Blk w b #[.int .i64 r.c, .int .i64 r.i, .int .i64 (hi r.s), .int .u64 (lo r.s), .int .i64 r.l, .int .i64 r.m, .int .i64 t.c, .int .i64 t.i, .int .i64 (hi t.s), .int .u64 (lo t.s), .int .i64 t.l, .int .i64 t.m] T) : Reds w b [r, t] := by
  refine ⟨h.lt, fun k hk => ?_⟩
  have hc := h.cell
  match k, hk with
  | 0, _ => exact ⟨hc 0, hc 1, hc 2, hc 3, hc 4, hc 5⟩
  | 1, _ => exact ⟨hc 6, hc 7, hc 8, hc 9, hc 10, hc 11⟩
theorem join2 (r t : R) (hr : r.Ok) (ht : t.Ok) (hc : r.c + t.c ≤ 1073741824) (b : Nat) (w : World) (hb : Blk w b #[.int .i64 r.c, .int .i64 r.i, .int .i64 (hi r.s), .int .u64 (lo r.s), .int .i64 r.l, .int .i64 r.m, .int .i64 t.c, .int .i64 t.i, .int .i64 (hi t.s), .int .u64 (lo t.s), .int .i64 t.l, .int .i64 t.m] 30) :
    Calls Tryd.prog 8 #[.slice (some ⟨b, 0, none⟩) 2 2] w fun e w' => e = .returned (.tuple #[rv (r.both t), .int .i64 0]) ∧ Below w.heap.size w w' := by
  have h := join_any [r, t] 2 b rfl (by intro x hx; simp at hx; rcases hx with rfl | rfl <;> assumption) w (by omega) (reds2 hb) (by
    intro j
    have h1 := hr.c1
    have h2 := ht.c0
    match j with
    | 0 => simp [foldR, R.zero]
    | 1 => simp only [foldR, List.take, List.foldl, zero_both hr]; omega
    | j + 2 => simp only [foldR, List.take, List.foldl, zero_both hr, List.take_nil]; rw [R.both_c]; omega)
  have e : foldR [r, t] = r.both t := by simp only [foldR, List.foldl, zero_both hr]
  rwa [e] at h

/-- a row with a number lies in block b from o on -/
structure ItemAt (w : World) (b o : Nat) (n : Int) : Prop where
  a0 : w.cell? ⟨b, o, none⟩ = some (.slice none 0 0)
  a1 : w.cell? ⟨b, o + 1, none⟩ = some (.slice none 0 0)
  a2 : w.cell? ⟨b, o + 2, none⟩ = some (.bool true)
  a3 : w.cell? ⟨b, o + 3, none⟩ = some (.int .i64 n)
def Items (w : World) (b : Nat) (L : List Int) : Prop := b < w.heap.size ∧ ∀ k (h : k < L.length), ItemAt w b (k * 4) L[k]
theorem ItemAt.kept {w w' : World} {B b o : Nat} {n : Int} (h : ItemAt w b o n) (hb : Below B w w') (hl : b < B) : ItemAt w' b o n := by
  constructor <;> rw [hb.cell (by exact hl)]
  · exact h.a0
  · exact h.a1
  · exact h.a2
  · exact h.a3

/-- the reduction of rows with these numbers -/
def redOf (L : List Int) : R := L.foldl (fun r n => r.both (R.one n)) R.zero
theorem redOf_snoc (L : List Int) (j : Nat) (h : j < L.length) : redOf (L.take (j + 1)) = (redOf (L.take j)).both (R.one L[j]) := by
  unfold redOf
  rw [List.take_succ_eq_append_getElem h, List.foldl_append]; rfl
theorem redOf_c (L : List Int) (j : Nat) : (redOf (L.take j)).c ≤ j := by
  induction j with
  | zero => simp [redOf, R.zero]
  | succ j ih =>
    by_cases h : j < L.length
    · rw [redOf_snoc L j h, R.both_c]; simp only [R.one]; omega
    · have e1 : L.take (j + 1) = L.take j := by rw [List.take_of_length_le (by omega), List.take_of_length_le (by omega)]
      rw [e1]; omega
theorem redOf_ok (L : List Int) (hL : ∀ n ∈ L, I64 n) (hn : L.length ≤ 1000) (j : Nat) : (redOf (L.take j)).Ok := by
  induction j with
  | zero => exact R.Ok.zero
  | succ j ih =>
    by_cases h : j < L.length
    · have hc := redOf_c L j
      rw [redOf_snoc L j h]
      exact ih.both (R.Ok.one (hL _ (List.getElem_mem h))) (by simp only [R.one]; omega)
    · have e1 : L.take (j + 1) = L.take j := by rw [List.take_of_length_le (by omega), List.take_of_length_le (by omega)]
      rw [e1]; exact ih

theorem zR_size : zR.size = 6 := rfl
def AllRel (w : World) (L : List Int) (n : Nat) (i : Value) (wr : World) : Prop :=
  ∃ k : Nat, k ≤ n ∧ i = .int .i64 k ∧ Below w.heap.size w wr ∧ Blk wr w.heap.size zR 30 ∧ Blk wr (w.heap.size + 1) (rc (redOf (L.take k))) 30

def AllCut (w : World) (q r : R) (p e : Value) (wx : World) : Prop :=
  ∃ g, p = .pointer (some ⟨g, 0, none⟩) ∧ w.heap.size + 1 < g ∧ e = .int .i64 0 ∧ Blk wx g (rc (q.both r)) 30 ∧ Blk wx w.heap.size zR 30 ∧ Blk wx (w.heap.size + 1) (rc q) 30 ∧ Below w.heap.size w wx

set_option maxHeartbeats 2000000 in
theorem all_any (L : List Int) (n b cap : Nat) (hlen : L.length = n) (hL : ∀ x ∈ L, I64 x) (w : World) (hn : n ≤ 60) (hcap : n ≤ cap) (hR : Items w b L) :
    Calls Tryd.prog 7 #[.slice (some ⟨b, 0, none⟩) n cap] w fun e w' => e = .returned (.tuple #[rv (redOf L), .bool true]) ∧ Below w.heap.size w w' := by
  obtain ⟨hb0, hR⟩ := hR
  have HR := Lib.hid hR
  have HL := Lib.hid hL
  have Hlen := Lib.hid hlen
  have HO := Lib.hid (redOf_ok L hL (by omega))
  clear hR hL hlen
  go_enter Tryd.func7, Tryd.ntmps7
  go_wp2_with fail
  go_loopw [12] (fun i wr => AllRel w L n i wr) (fun i _ => n - (intOf i).toNat)
  case atStart => exact ⟨0, by omega, rfl, by go_grown, (Blk.new w _ _).alloc _, by rw [show rc (redOf (L.take 0)) = zR from rv_zero]; exact Blk.new' (by simp)⟩
  case round =>
    obtain ⟨k, hk, rfl, hbw, k1, k2⟩ := hrel
    have z0 := hbw.size
    have l1 := k1.lt
    have l2 := k2.lt
    by_cases hlt : k < n
    · have hlt' : k < L.length := by rw [Hlen.out]; exact hlt
      have hs := Lib.hid (redOf_snoc L k hlt')
      obtain ⟨a0, a1, a2, a3⟩ := (HR.out k hlt').kept hbw hb0
      have hx := HL.out L[k] (List.getElem_mem hlt')
      have hq := HO.out k
      have hqc := redOf_c L k
      generalize L[k] = x at *
      generalize redOf (L.take k) = q at *
      have hone := R.Ok.one hx
      have hcc : q.c + (R.one x).c ≤ 1073741824 := by simp only [R.one]; omega
      clear hlt'
      go_upto_region 5 with fail
      go_cut [7, 8] (fun p e wx => AllCut w q (R.one x) p e wx)
      case first =>
        have hS : Hold2 (w.heap.size + 1) (rc q) 30 wr.heap.size #[.slice none 0 0, .slice none 0 0, .bool true, .int .i64 x] 27 (wr.alloc (.cells #[.slice none 0 0, .slice none 0 0, .bool true, .int .i64 x] 27)) := Hold2.mk' (k2.alloc _) (Blk.new _ _ _)
        have hS0 := k1.alloc (.cells #[.slice none 0 0, .slice none 0 0, .bool true, .int .i64 x] 27)
        go_region_held3 (fun w' => Hold2 (w.heap.size + 1) #[.int .i64 q.c, .int .i64 q.i, .int .i64 (hi q.s), .int .u64 (lo q.s), .int .i64 q.l, .int .i64 q.m] 30 wr.heap.size #[.slice none 0 0, .slice none 0 0, .bool true, .int .i64 x] 27 w')
          (first | ((with_reducible refine Hold2.off ?_ _ (by omega) (by omega)); (repeat (with_reducible refine Hold2.off ?_ _ (by omega) (by omega))); (with_reducible assumption)) | (with_reducible exact Hold2.alloc (by assumption) _) | (with_reducible exact Hold2.kept (by assumption) hb2) | (with_reducible exact Hold2.kept (by assumption) hb1) | (with_reducible exact Hold2.other (by assumption) (by omega) (by omega) _) | (with_reducible exact Hold2.drew hS) | (with_reducible exact Hold2.drew (Hold2.alloc hS _)) | (with_reducible assumption))
          (first
            | (go_at_call 26; refine (one_yes _ _ x hx none 0 0 rfl none 0 0 rfl _).mono ?_; rintro e w1 ⟨rfl, hb1⟩; obtain ⟨hc1, hf1⟩ := bcell hb1; have z1 := hb1.size; simp only [World.size_alloc, World.size_drew] at hc1 hf1 z1; (have y1 : w.heap.size + 1 < w1.heap.size := by omega); (have y2 : wr.heap.size < w1.heap.size := by omega); (try have y3 : wr.heap.size + 1 < w1.heap.size := by omega))
            | (go_at_call 8; refine (join2 q (R.one x) hq hone hcc _ _ (by first | exact Blk.new' (by simp; done) | exact Blk.alloc (Blk.new' (by simp; done)) _)).mono ?_; rintro e w2 ⟨rfl, hb2⟩; obtain ⟨hc2, hf2⟩ := bcell hb2; have z2 := hb2.size; simp only [World.size_alloc] at hc2 hf2 z2; (have y4 : w.heap.size + 1 < w2.heap.size := by omega); (have y5 : wr.heap.size < w2.heap.size := by omega); (try have y6 : wr.heap.size + 1 < w2.heap.size := by omega); (have y7 : w1.heap.size < w2.heap.size := by omega); (try have y8 : w1.heap.size + 1 < w2.heap.size := by omega)))
        all_goals (go_wp2_with fail; go_meet)
        all_goals
          refine ⟨_, rfl, ?_, rfl, ?_, ?_, ?_, ?_⟩
          · omega
          · first | (with_reducible exact Blk.new _ _ _) | (with_reducible refine Blk.six (cs := zR) ?_ _ _ _ _ _ _ zR_size)
            all_goals repeat' (first | ((with_reducible refine Blk.new' ?_); first | rfl | (simp; done)) | (with_reducible refine Blk.off ?_ _ (by omega)) | (with_reducible refine Blk.alloc ?_ _) | (with_reducible refine Blk.drew ?_) | (with_reducible refine Blk.kept ?_ (by with_reducible assumption)))
          · repeat' (first | (with_reducible exact k1) | ((with_reducible refine Blk.new' ?_); first | rfl | (simp; done)) | (with_reducible refine Blk.off ?_ _ (by omega)) | (with_reducible refine Blk.alloc ?_ _) | (with_reducible refine Blk.drew ?_) | (with_reducible refine Blk.kept ?_ (by with_reducible assumption)))
          · repeat' (first | (with_reducible exact k2) | ((with_reducible refine Blk.new' ?_); first | rfl | (simp; done)) | (with_reducible refine Blk.off ?_ _ (by omega)) | (with_reducible refine Blk.alloc ?_ _) | (with_reducible refine Blk.drew ?_) | (with_reducible refine Blk.kept ?_ (by with_reducible assumption)))
          · repeat' (first | (with_reducible exact hbw) | (with_reducible refine Below.alloc ?_ (by go_size) _) | (with_reducible refine Below.drew ?_) | (with_reducible refine Below.set ?_ (by omega) _) | (with_reducible refine Below.after ?_ (by with_reducible assumption) (by go_size)))
      case rest =>
        obtain ⟨g, rfl, hg, rfl, g1, g2, g3, hbx⟩ := hcut
        have lg := g1.lt
        have lo1 := g3.lt
        have b0 := g1.cell 0
        have b1 := g1.cell 1
        have b2 := g1.cell 2
        have b3 := g1.cell 3
        have b4 := g1.cell 4
        have b5 := g1.cell 5
        have q0 := g3.cell 0
        have q1 := g3.cell 1
        have q2 := g3.cell 2
        have q3 := g3.cell 3
        have q4 := g3.cell 4
        have q5 := g3.cell 5
        have f0 := g3.frozen 0
        have f1 := g3.frozen 1
        have f2 := g3.frozen 2
        have f3 := g3.frozen 3
        have f4 := g3.frozen 4
        have f5 := g3.frozen 5
        simp only [rc] at *
        simp at b0 b1 b2 b3 b4 b5 q0 q1 q2 q3 q4 q5
        go_wp2_with fail
        go_roundw
        case rel =>
          refine ⟨k + 1, by omega, by go_num, ?_, ?_, ?_⟩
          · repeat' (first | (with_reducible exact hbx) | (with_reducible refine Below.set ?_ (by omega) _))
          · repeat' (first | (with_reducible exact g2) | (with_reducible refine Blk.off ?_ _ (by omega)))
          · rw [hs.out]
            exact Blk.six g3 _ _ _ _ _ _
        case measure => simp [intOf]; omega
    · have hkn : k = n := by omega
      subst hkn
      have e1 : redOf (L.take k) = redOf L := by rw [List.take_of_length_le (by rw [Hlen.out]; omega)]
      rw [e1] at k2
      clear hlt hk e1
      generalize hq : redOf L = q at *
      have Hq := Lib.hid hq
      clear hq
      obtain ⟨c', i', s', l', m'⟩ := q
      have q0 := k2.cell 0
      have q1 := k2.cell 1
      have q2 := k2.cell 2
      have q3 := k2.cell 3
      have q4 := k2.cell 4
      have q5 := k2.cell 5
      have p0 := k1.cell 0
      have p1 := k1.cell 1
      have p2 := k1.cell 2
      have p3 := k1.cell 3
      have p4 := k1.cell 4
      have p5 := k1.cell 5
      have f0 := k1.frozen 0
      have f1 := k1.frozen 1
      have f2 := k1.frozen 2
      have f3 := k1.frozen 3
      have f4 := k1.frozen 4
      have f5 := k1.frozen 5
      simp only [rc] at *
      simp at q0 q1 q2 q3 q4 q5 p0 p1 p2 p3 p4 p5
      go_wp2_with fail
      refine bodyPost_ret (v := .tuple #[rv ⟨c', i', s', l', m'⟩, .bool true]) (by simp [results, Tryd.results7, go_sem, *]) rfl ⟨by rw [Hq.out], ?_⟩
      repeat' (first | (with_reducible exact hbw) | (with_reducible refine Below.alloc ?_ (by go_size) _) | (with_reducible refine Below.drew ?_) | (with_reducible refine Below.set ?_ (by omega) _) | (with_reducible refine Below.after ?_ (by with_reducible assumption) (by go_size)))

/-- no rows at all -/
theorem all_nil (w : World) :
    Calls Tryd.prog 7 #[.slice none 0 0] w fun e w' => e = .returned (.tuple #[rv (redOf []), .bool true]) ∧ Below w.heap.size w w' := by
  have e : rv (redOf []) = .agg zR := by rw [show redOf [] = R.zero from rfl]; simp [R.zero, hi_zero, lo_zero]
  rw [e]
  go_enter Tryd.func7, Tryd.ntmps7
  go_wp2_with fail
  go_rounds 1
  refine bodyPost_ret (v := .tuple #[.agg zR, .bool true]) (by simp [results, Tryd.results7, go_sem, *]) rfl ⟨rfl, ?_⟩
  go_grown
end Go.Proofs.YtmleipmilmeclaaDoor

/- Walks: the kinds of what is told. -/
namespace Go.Proofs.YtmleipmilmeclaaDoor
open Go.RowKit
attribute [local go_sem ↓] Go.wp_at_zero Go.wp_at_succ

abbrev fnV (k : Nat) : Value := .func (.func k) #[] #[]
abbrev sCount : Value := .string { data := #[95, 99, 111, 117, 110, 116] }
abbrev sSum : Value := .string { data := #[95, 115, 117, 109] }
abbrev sMin : Value := .string { data := #[95, 109, 105, 110] }
abbrev sMax : Value := .string { data := #[95, 109, 97, 120] }
abbrev sStats : Value := .string { data := #[95, 115, 116, 97, 116, 115] }
abbrev kc0 : Array Value := #[.string ⟨#[]⟩, .nilFunc, sCount, fnV 66, sSum, fnV 67, sMin, fnV 68, sMax, fnV 70]
abbrev kcL : List Value := [.string ⟨#[]⟩, .nilFunc, sCount, fnV 66, sSum, fnV 67, sMin, fnV 68, sMax, fnV 70, sStats, fnV 53]

set_option maxHeartbeats 400000 in
theorem simple_any (w : World) :
    Calls Tryd.prog 52 #[] w fun e w' => e = .returned (.agg kc0) ∧ Below w.heap.size w w' := by
  go_enter Tryd.func52, Tryd.ntmps52
  go_wp2
  refine bodyPost_ret (v := .agg kc0) (by simp [results, Tryd.results52, go_sem]) rfl ⟨rfl, by go_grown⟩

theorem info71 : (Tryd.prog.info? 71).map (fun i => (i.zero, i.size, i.bytes)) = some (some (.agg #[.string ⟨#[]⟩, .nilFunc]), 2, 24) := by kernel_rfl

/-- what kinds hands back lies in block g -/
def KindsAt (w : World) (g : Nat) : Prop := g < w.heap.size ∧ ∀ j u, kcL[j]? = some u → w.cell? ⟨g, j, none⟩ = some u

theorem ownsRow_cells {w : World} {base : Nat} {e : TypeId} {size : Nat} {v : Value} {n : Nat} {xs : List Value} (h : w.ownsRow base e size v n xs) (hn : 0 < n) :
    ∃ g cap, v = .slice (some ⟨g, 0, none⟩) n cap ∧ base ≤ g ∧ g < w.heap.size ∧ n ≤ cap ∧ cap ≤ maxLen ∧ ∀ j u, xs[j]? = some u → w.cell? ⟨g, j, none⟩ = some u := by
  obtain ⟨hl, h2⟩ := h
  rcases h2 with ⟨_, h0⟩ | ⟨g, cap, cur, hv, hb, hg, hc1, hc2, hs, ht⟩
  · omega
  · refine ⟨g, cap, hv, hb, ?_, hc1, hc2, fun j u hj => ?_⟩
    · rcases Nat.lt_or_ge g w.heap.size with hlt | hge
      · exact hlt
      · rw [Array.getElem?_eq_none hge] at hg; cases hg
    · rw [← ht] at hj
      have hjl : j < (cur.toList.take (n * size)).length := by
        rcases Nat.lt_or_ge j (cur.toList.take (n * size)).length with h1 | h1
        · exact h1
        · rw [List.getElem?_eq_none h1] at hj; cases hj
      rw [List.getElem?_take] at hj
      split at hj
      · simp only [World.cell?, hg]
        simpa using hj
      · cases hj

set_option maxRecDepth 100000 in
set_option maxHeartbeats 1000000 in
theorem kinds_any (w : World) :
    Calls Tryd.prog 30 #[] w fun e w' => ∃ g cap, e = .returned (.slice (some ⟨g, 0, none⟩) 6 cap) ∧ 6 ≤ cap ∧ KindsAt w' g ∧ w.heap.size ≤ g ∧ Below w.heap.size w w' := by
  obtain ⟨i0, hi, hz0, hz1, hz2⟩ := info_parts info71
  go_enter Tryd.func30, Tryd.ntmps30
  go_wp2_with fail
  refine (simple_any _).mono ?_; rintro e w1 ⟨rfl, hb⟩; obtain ⟨hc, hf⟩ := bcell hb
  go_wp2_with fail
  go_ret
  refine ⟨w1.heap.size + 1 + 1, _, rfl, by simp [Question.cut], ⟨by simp, fun j u hj => ?_⟩, by have := hb.size; omega, ?_⟩
  · have hj12 : j < 12 := by
      rcases Nat.lt_or_ge j 12 with h1 | h1
      · exact h1
      · rw [List.getElem?_eq_none (by simpa using h1)] at hj; cases hj
    have hz : ∀ (W : World) (o : Obj) (n : Nat), n = W.heap.size → (W.alloc o).heap[n]? = some o := by
      intro W o n hn; subst hn; show (W.heap.push o)[W.heap.size]? = _; simp
    have hc : ∀ (W : World) (cs : Array Value) (T : TypeId) (n : Nat), n = W.heap.size → ((W.alloc (.cells cs T)).drew.cell? ⟨n, j, none⟩) = cs[j]? := by
      intro W cs T n hn
      show ((W.alloc (.cells cs T)).cell? ⟨n, j, none⟩) = cs[j]?
      simp only [World.cell?, hz W _ n hn]; rfl
    rw [hc _ _ _ _ (by simp), ← Array.append_assoc, Array.getElem?_append_left (by simpa using hj12)]
    rw [← hj, ← Array.getElem?_toList]
    rfl
  · repeat' (first | (with_reducible exact Below.refl _ _) | (with_reducible refine Below.alloc ?_ (by have := hb.size; go_size) _) | (with_reducible refine Below.drew ?_) | (with_reducible refine Below.after ?_ hb (by go_size)))
end Go.Proofs.YtmleipmilmeclaaDoor
