/- Walks: Join. -/
import Derived.Test.YtmleipmilmeclaaDoorWc
import Derived.Test.YtmleipmilmeclaaDoorWd
namespace Go.Proofs.YtmleipmilmeclaaDoor
open Go.RowKit
attribute [local go_sem ↓] Go.wp_at_zero Go.wp_at_succ

/-- a reduction lies in block b from o on -/
structure RedAt (w : World) (b o : Nat) (r : R) : Prop where
  a0 : w.cell? ⟨b, o, none⟩ = some (.int .i64 r.c)
  a1 : w.cell? ⟨b, o + 1, none⟩ = some (.int .i64 r.i)
  a2 : w.cell? ⟨b, o + 2, none⟩ = some (.int .i64 (hi r.s))
  a3 : w.cell? ⟨b, o + 3, none⟩ = some (.int .u64 (lo r.s))
  a4 : w.cell? ⟨b, o + 4, none⟩ = some (.int .i64 r.l)
  a5 : w.cell? ⟨b, o + 5, none⟩ = some (.int .i64 r.m)
def Reds (w : World) (b : Nat) (L : List R) : Prop := b < w.heap.size ∧ ∀ k (h : k < L.length), RedAt w b (k * 6) L[k]
theorem RedAt.kept {w w' : World} {B b o : Nat} {r : R} (h : RedAt w b o r) (hb : Below B w w') (hl : b < B) : RedAt w' b o r := by
  constructor <;> rw [hb.cell (by exact hl)]
  · exact h.a0
  · exact h.a1
  · exact h.a2
  · exact h.a3
  · exact h.a4
  · exact h.a5

def foldR (L : List R) : R := L.foldl R.both R.zero
abbrev zR : Array Value := #[.int .i64 0, .int .i64 0, .int .i64 0, .int .u64 0, .int .i64 0, .int .i64 0]

def JoinRel1 (w : World) (n : Nat) (i e : Value) (wr : World) : Prop :=
  ∃ k : Nat, k ≤ n ∧ i = .int .i64 k ∧ e = .int .i64 0 ∧ Below w.heap.size w wr ∧ Blk wr w.heap.size zR 30 ∧ Blk wr (w.heap.size + 1) zR 30

theorem foldR_snoc (L : List R) (j : Nat) (h : j < L.length) : foldR (L.take (j + 1)) = (foldR (L.take j)).both L[j] := by
  unfold foldR
  rw [List.take_succ_eq_append_getElem h, List.foldl_append]; rfl
theorem foldR_ok (L : List R) (hL : ∀ r ∈ L, R.Ok r) (hC : ∀ j, (foldR (L.take j)).c ≤ 1073741824) (j : Nat) : (foldR (L.take j)).Ok := by
  induction j with
  | zero => exact R.Ok.zero
  | succ j ih =>
    by_cases h : j < L.length
    · have hc := hC (j + 1)
      rw [foldR_snoc L j h] at hc ⊢
      rw [R.both_c] at hc
      exact ih.both (hL _ (List.getElem_mem h)) hc
    · have e1 : L.take (j + 1) = L.take j := by rw [List.take_of_length_le (by omega), List.take_of_length_le (by omega)]
      rw [e1]; exact ih
theorem rv_zero : #[Value.int .i64 R.zero.c, .int .i64 R.zero.i, .int .i64 (hi R.zero.s), .int .u64 (lo R.zero.s), .int .i64 R.zero.l, .int .i64 R.zero.m] = zR := by
  simp [R.zero, hi_zero, lo_zero]
theorem Blk.six {w : World} {b : Nat} {cs : Array Value} {T : TypeId} (h : Blk w b cs T) (x0 x1 x2 x3 x4 x5 : Value) (hcs : cs.size = 6 := by rfl) :
    Blk ((((((w.setCell ⟨b, 0, none⟩ x0).setCell ⟨b, 1, none⟩ x1).setCell ⟨b, 2, none⟩ x2).setCell ⟨b, 3, none⟩ x3).setCell ⟨b, 4, none⟩ x4).setCell ⟨b, 5, none⟩ x5) b #[x0, x1, x2, x3, x4, x5] T := by
  obtain ⟨l⟩ := cs
  match l, hcs with
  | [_, _, _, _, _, _], _ => exact (((((h.set 0 x0).set 1 x1).set 2 x2).set 3 x3).set 4 x4).set 5 x5
abbrev rc (r : R) : Array Value := #[.int .i64 r.c, .int .i64 r.i, .int .i64 (hi r.s), .int .u64 (lo r.s), .int .i64 r.l, .int .i64 r.m]
def JoinRel2 (w : World) (L : List R) (n : Nat) (i : Value) (wr : World) : Prop :=
  ∃ k : Nat, k ≤ n ∧ i = .int .i64 k ∧ Below w.heap.size w wr ∧ Blk wr w.heap.size zR 30 ∧ Blk wr (w.heap.size + 1) (rc (foldR (L.take k))) 30

set_option maxHeartbeats 1000000 in
theorem join_any (L : List R) (n b : Nat) (hlen : L.length = n) (hL : ∀ r ∈ L, R.Ok r) (w : World) (hn : n ≤ 1000) (hR : Reds w b L) (hC : ∀ j, (foldR (L.take j)).c ≤ 1073741824) :
    Calls Tryd.prog 8 #[.slice (some ⟨b, 0, none⟩) n n] w fun e w' => e = .returned (.tuple #[rv (foldR L), .int .i64 0]) ∧ Below w.heap.size w w' := by
  obtain ⟨hb0, hR⟩ := hR
  have HR := Lib.hid hR
  have HL := Lib.hid hL
  have Hlen := Lib.hid hlen
  have HC := Lib.hid hC
  have HO := Lib.hid (fun j => foldR_ok L hL hC j)
  clear hR hL hlen hC
  go_enter Tryd.func8, Tryd.ntmps8
  go_wp2
  go_step3
  go_wp2
  go_step3
  go_wp2
  go_loopw [13, 4] (fun i e wr => JoinRel1 w n i e wr) (fun i _ _ => n - (intOf i).toNat)
  case atStart => exact ⟨0, by omega, rfl, rfl, by go_grown, (Blk.new w _ _).alloc _, Blk.new' (by simp)⟩
  case round =>
    obtain ⟨k, hk, rfl, rfl, hbw, k1, k2⟩ := hrel
    by_cases hlt : k < n
    · have hlt' : k < L.length := by rw [Hlen.out]; exact hlt
      obtain ⟨a0, a1, a2, a3, a4, a5⟩ := (HR.out k hlt').kept hbw hb0
      have hok := HL.out L[k] (List.getElem_mem hlt')
      generalize L[k] = r at *
      have hck := Lib.hid (check_ok r hok)
      obtain ⟨c, i, s, l, m⟩ := r
      simp only [rv] at *
      clear hok hlt'
      go_wp2_with fail
      refine (hck.out _).mono ?_; rintro e w1 ⟨rfl, hb1⟩; obtain ⟨hc1, hf1⟩ := bcell hb1
      go_wp2_with fail
      go_roundw
      case rel => exact ⟨k + 1, by omega, by go_num, rfl, Below.after (hbw.alloc (by have := hbw.size; omega) _) hb1 (by have := hbw.size; go_size), (k1.alloc _).kept hb1, (k2.alloc _).kept hb1⟩
      case measure => simp [intOf]; omega
    · have hkn : k = n := by omega
      subst hkn
      clear hlt hk
      go_wp2_with fail
      obtain ⟨wo, rfl⟩ : ∃ wo, wo = wr := ⟨_, rfl⟩
      go_loopw [28] (fun i wr => JoinRel2 w L k i wr) (fun i _ => k - (intOf i).toNat)
      case atStart => exact ⟨0, by omega, rfl, hbw, k1, by rw [show rc (foldR (L.take 0)) = zR from rv_zero]; exact k2⟩
      case round =>
        obtain ⟨j, hj, rfl, hbw', k1', k2'⟩ := hrel
        have z0 := hbw'.size
        have l1 := k1'.lt
        have l2 := k2'.lt
        by_cases hlt : j < k
        · have hlt' : j < L.length := by rw [Hlen.out]; exact hlt
          have hs := Lib.hid (foldR_snoc L j hlt')
          obtain ⟨a0, a1, a2, a3, a4, a5⟩ := (HR.out j hlt').kept hbw' hb0
          have hok := HL.out L[j] (List.getElem_mem hlt')
          have hq := HO.out j
          have hq1 := HO.out (j + 1)
          rw [hs.out] at hq1
          have hcc := hq1.c1
          rw [R.both_c] at hcc
          have hbt := both_any (foldR (L.take j)) L[j] hq.toNum hok.toNum (by
            have := hq.sum_bd; have := hok.sum_bd; have := hq.i1; have := hq.c1; have := hok.i1; have := hok.c1
            unfold S120; omega)
          generalize L[j] = r at *
          generalize foldR (L.take j) = q at *
          obtain ⟨c, i, s, l, m⟩ := r
          obtain ⟨c', i', s', l', m'⟩ := q
          have m0 := hok.c0
          have m1 := hok.c1
          have m2 := hq.c0
          have m3 := hq.c1
          have q0 := k2'.cell 0
          have q1 := k2'.cell 1
          have q2 := k2'.cell 2
          have q3 := k2'.cell 3
          have q4 := k2'.cell 4
          have q5 := k2'.cell 5
          have f0 := k2'.frozen 0
          have f1 := k2'.frozen 1
          have f2 := k2'.frozen 2
          have f3 := k2'.frozen 3
          have f4 := k2'.frozen 4
          have f5 := k2'.frozen 5
          simp only [rv, rc] at *
          simp at q0 q1 q2 q3 q4 q5
          have hbt := Lib.hid hbt
          clear hok hlt' hq hq1
          go_wp2_with fail
          refine (hbt.out _).mono ?_; rintro e w1 ⟨rfl, hb1⟩; obtain ⟨hc1, hf1⟩ := bcell hb1
          have z1 := hb1.size
          simp only [World.size_alloc] at z1
          go_wp2_with fail
          go_roundw
          case rel =>
            refine ⟨j + 1, by omega, by go_num, ?_, ?_, ?_⟩
            · repeat' (first | (with_reducible exact hbw') | (with_reducible exact Below.refl _ _) | (with_reducible refine Below.alloc ?_ (by go_size) _) | (with_reducible refine Below.drew ?_) | (with_reducible refine Below.set ?_ (by omega) _) | (with_reducible refine Below.after ?_ (by with_reducible assumption) (by go_size)))
            · repeat' (first | (with_reducible exact k1') | (with_reducible refine Blk.off ?_ _ (by omega)) | (with_reducible refine Blk.alloc ?_ _) | (with_reducible refine Blk.kept ?_ hb1))
            · rw [hs.out]
              exact Blk.six ((k2'.alloc _).kept hb1) _ _ _ _ _ _
          case measure => simp [intOf]; omega
        · have hjk : j = k := by omega
          subst hjk
          have e1 : foldR (L.take j) = foldR L := by rw [List.take_of_length_le (by rw [Hlen.out]; omega)]
          rw [e1] at k2'
          clear hlt hj e1
          generalize hq : foldR L = q at *
          have Hq := Lib.hid hq
          clear hq
          obtain ⟨c', i', s', l', m'⟩ := q
          have q0 := k2'.cell 0
          have q1 := k2'.cell 1
          have q2 := k2'.cell 2
          have q3 := k2'.cell 3
          have q4 := k2'.cell 4
          have q5 := k2'.cell 5
          have p0 := k1'.cell 0
          have p1 := k1'.cell 1
          have p2 := k1'.cell 2
          have p3 := k1'.cell 3
          have p4 := k1'.cell 4
          have p5 := k1'.cell 5
          have f0 := k1'.frozen 0
          have f1 := k1'.frozen 1
          have f2 := k1'.frozen 2
          have f3 := k1'.frozen 3
          have f4 := k1'.frozen 4
          have f5 := k1'.frozen 5
          simp only [rc] at *
          simp at q0 q1 q2 q3 q4 q5 p0 p1 p2 p3 p4 p5
          go_wp2_with fail
          rw [Exit.noGoto_ret]
          refine bodyPost_ret (v := .tuple #[rv ⟨c', i', s', l', m'⟩, .int .i64 0]) (by simp [results, Tryd.results8, go_sem, *]) rfl ⟨by rw [Hq.out], ?_⟩
          repeat' (first | (with_reducible exact hbw') | (with_reducible exact Below.refl _ _) | (with_reducible refine Below.alloc ?_ (by go_size) _) | (with_reducible refine Below.drew ?_) | (with_reducible refine Below.set ?_ (by omega) _) | (with_reducible refine Below.after ?_ (by with_reducible assumption) (by go_size)))
end Go.Proofs.YtmleipmilmeclaaDoor
