/- Walks: Kind, and the row of wakes. -/
import Derived.Test.YtmleipmilmeclaaDoorWg
namespace Go.Proofs.YtmleipmilmeclaaDoor
open Go.RowKit
attribute [local go_sem ↓] Go.wp_at_zero Go.wp_at_succ

set_option maxRecDepth 100000 in
set_option maxHeartbeats 2000000 in
theorem kind_sum (w : World) :
    Calls Tryd.prog 28 #[sSum] w fun e w' => e = .returned (.tuple #[.int .i64 2, .int .i64 0]) ∧ Below w.heap.size w w' := by
  go_enter Tryd.func28, Tryd.ntmps28
  go_wp2_with fail
  refine (kinds_any _).mono ?_; rintro e w1 ⟨g, cap, rfl, hcap, ⟨hg, hk⟩, hge, hb1⟩; have k0 := hk 0 _ rfl; have k1 := hk 1 _ rfl; have k2 := hk 2 _ rfl; have k3 := hk 3 _ rfl; have k4 := hk 4 _ rfl; have k5 := hk 5 _ rfl; clear hk; obtain ⟨hc1, hf1⟩ := bcell hb1
  go_wp2_with fail
  go_rounds 3
  go_ret2
  refine ⟨rfl, ?_⟩
  repeat' (first | (with_reducible exact Below.refl _ _) | (with_reducible refine Below.alloc ?_ (by go_size) _) | (with_reducible refine Below.drew ?_) | (with_reducible refine Below.set ?_ (by omega) _) | (with_reducible refine Below.after ?_ (by with_reducible assumption) (by go_size)))

set_option maxHeartbeats 1000000 in
theorem row_any (n : Int) (hn : I64 n) (w : World) :
    Calls Tryd.prog 25 #[.int .i64 n] w fun e w' => e = .returned (rv (R.one n)) ∧ Below w.heap.size w w' := by
  have h1 := Lib.hid (one_yes (.slice none 0 0) (.slice none 0 0) n hn none 0 0 rfl none 0 0 rfl)
  go_enter Tryd.func25, Tryd.ntmps25
  go_wp2_with fail
  refine (h1.out _).mono ?_; rintro e w1 ⟨rfl, hb1⟩; obtain ⟨hc1, hf1⟩ := bcell hb1
  simp only [World.size_alloc] at hc1 hf1
  go_wp2_with fail
  refine bodyPost_ret (v := rv (R.one n)) (by simp [results, Tryd.results25, go_sem, *]) rfl ⟨rfl, ?_⟩
  repeat' (first | (with_reducible exact Below.refl _ _) | (with_reducible refine Below.alloc ?_ (by go_size) _) | (with_reducible refine Below.drew ?_) | (with_reducible refine Below.set ?_ (by omega) _) | (with_reducible refine Below.after ?_ (by with_reducible assumption) (by go_size)))

set_option maxHeartbeats 1000000 in
theorem join_over (L : List R) (n b p : Nat) (hlen : L.length = n) (hL : ∀ r ∈ L, R.Ok r) (w : World) (hn : n ≤ 1000) (hR : Reds w b L) (hp : p < L.length) (hC : ∀ j, j ≤ p → (foldR (L.take j)).Ok) (hO : (foldR (L.take p)).c + L[p].c > 1073741824) :
    Calls Tryd.prog 8 #[.slice (some ⟨b, 0, none⟩) n n] w fun e w' => e = .returned (.tuple #[.agg zR, .int .i64 5]) ∧ Below w.heap.size w w' := by
  obtain ⟨hb0, hR⟩ := hR
  have HR := Lib.hid hR
  have HL := Lib.hid hL
  have Hlen := Lib.hid hlen
  have HC := Lib.hid hC
  have HO := Lib.hid hO
  have hpn : p < n := by omega
  have hp := Lib.hid hp
  clear hR hL hlen hC hO
  go_enter Tryd.func8, Tryd.ntmps8
  go_wp2
  go_step3
  go_wp2
  go_step3
  go_wp2
  go_loopw [13, 4] (fun i e wr => JoinRel1 w n i e wr) (fun i _ _ => n - (intOf i).toNat)
  case atStart => exact ⟨0, by omega, rfl, rfl, by go_grown, (Blk.new w _ _).alloc _, Blk.new' (by simp)⟩
  case round =>
    obtain ⟨k, hk, rfl, rfl, hbw, k1, k2⟩ := hrel
    by_cases hlt : k < n
    · have hlt' : k < L.length := by rw [Hlen.out]; exact hlt
      obtain ⟨a0, a1, a2, a3, a4, a5⟩ := (HR.out k hlt').kept hbw hb0
      have hok := HL.out L[k] (List.getElem_mem hlt')
      generalize L[k] = r at *
      have hck := Lib.hid (check_ok r hok)
      obtain ⟨c, i, s, l, m⟩ := r
      simp only [rv] at *
      clear hok hlt'
      go_wp2_with fail
      refine (hck.out _).mono ?_; rintro e w1 ⟨rfl, hb1⟩; obtain ⟨hc1, hf1⟩ := bcell hb1
      go_wp2_with fail
      go_roundw
      case rel => exact ⟨k + 1, by omega, by go_num, rfl, Below.after (hbw.alloc (by have := hbw.size; omega) _) hb1 (by have := hbw.size; go_size), (k1.alloc _).kept hb1, (k2.alloc _).kept hb1⟩
      case measure => simp [intOf]; omega
    · have hkn : k = n := by omega
      subst hkn
      clear hlt hk
      go_wp2_with fail
      obtain ⟨wo, rfl⟩ : ∃ wo, wo = wr := ⟨_, rfl⟩
      go_loopw [28] (fun i wr => JoinRel2 w L p i wr) (fun i _ => k - (intOf i).toNat)
      case atStart => exact ⟨0, by omega, rfl, hbw, k1, by rw [show rc (foldR (L.take 0)) = zR from rv_zero]; exact k2⟩
      case round =>
        obtain ⟨j, hj, rfl, hbw', k1', k2'⟩ := hrel
        have z0 := hbw'.size
        have l1 := k1'.lt
        have l2 := k2'.lt
        have hjk : j < k := by omega
        have hlt' : j < L.length := by rw [Hlen.out]; exact hjk
        obtain ⟨a0, a1, a2, a3, a4, a5⟩ := (HR.out j hlt').kept hbw' hb0
        have hok := HL.out L[j] (List.getElem_mem hlt')
        have hq := HC.out j hj
        by_cases hlt : j < p
        · have hs := Lib.hid (foldR_snoc L j hlt')
          have hq1 := HC.out (j + 1) (by omega)
          rw [hs.out] at hq1
          have hcc := hq1.c1
          rw [R.both_c] at hcc
          have hbt := both_any (foldR (L.take j)) L[j] hq.toNum hok.toNum (by
            have := hq.sum_bd; have := hok.sum_bd; have := hq.i1; have := hq.c1; have := hok.i1; have := hok.c1
            unfold S120; omega)
          generalize L[j] = r at *
          generalize foldR (L.take j) = q at *
          obtain ⟨c, i, s, l, m⟩ := r
          obtain ⟨c', i', s', l', m'⟩ := q
          have m0 := hok.c0
          have m1 := hok.c1
          have m2 := hq.c0
          have m3 := hq.c1
          have q0 := k2'.cell 0
          have q1 := k2'.cell 1
          have q2 := k2'.cell 2
          have q3 := k2'.cell 3
          have q4 := k2'.cell 4
          have q5 := k2'.cell 5
          have f0 := k2'.frozen 0
          have f1 := k2'.frozen 1
          have f2 := k2'.frozen 2
          have f3 := k2'.frozen 3
          have f4 := k2'.frozen 4
          have f5 := k2'.frozen 5
          simp only [rv, rc] at *
          simp at q0 q1 q2 q3 q4 q5
          have hbt := Lib.hid hbt
          clear hok hlt' hq hq1
          go_wp2_with fail
          refine (hbt.out _).mono ?_; rintro e w1 ⟨rfl, hb1⟩; obtain ⟨hc1, hf1⟩ := bcell hb1
          have z1 := hb1.size
          simp only [World.size_alloc] at z1
          go_wp2_with fail
          go_roundw
          case rel =>
            refine ⟨j + 1, by omega, by go_num, ?_, ?_, ?_⟩
            · repeat' (first | (with_reducible exact hbw') | (with_reducible exact Below.refl _ _) | (with_reducible refine Below.alloc ?_ (by go_size) _) | (with_reducible refine Below.drew ?_) | (with_reducible refine Below.set ?_ (by omega) _) | (with_reducible refine Below.after ?_ (by with_reducible assumption) (by go_size)))
            · repeat' (first | (with_reducible exact k1') | (with_reducible refine Blk.off ?_ _ (by omega)) | (with_reducible refine Blk.alloc ?_ _) | (with_reducible refine Blk.kept ?_ hb1))
            · rw [hs.out]
              exact Blk.six ((k2'.alloc _).kept hb1) _ _ _ _ _ _
          case measure => simp [intOf]; omega
        · have hjp : j = p := by omega
          subst hjp
          have hO := HO.out
          generalize L[j] = r at *
          generalize foldR (L.take j) = q at *
          obtain ⟨c, i, s, l, m⟩ := r
          obtain ⟨c', i', s', l', m'⟩ := q
          have m0 := hok.c0
          have m1 := hok.c1
          have m2 := hq.c0
          have m3 := hq.c1
          have q0 := k2'.cell 0
          have p0 := k1'.cell 0
          have p1 := k1'.cell 1
          have p2 := k1'.cell 2
          have p3 := k1'.cell 3
          have p4 := k1'.cell 4
          have p5 := k1'.cell 5
          have f0 := k1'.frozen 0
          have f1 := k1'.frozen 1
          have f2 := k1'.frozen 2
          have f3 := k1'.frozen 3
          have f4 := k1'.frozen 4
          have f5 := k1'.frozen 5
          simp only [rc] at *
          simp at q0 p0 p1 p2 p3 p4 p5
          clear hok hlt' hq hlt hj
          go_wp2_with fail
          try rw [Exit.noGoto_ret]
          refine bodyPost_ret (v := .tuple #[.agg zR, .int .i64 5]) (by simp [results, Tryd.results8, go_sem, *]) rfl ⟨rfl, ?_⟩
          repeat' (first | (with_reducible exact hbw') | (with_reducible exact Below.refl _ _) | (with_reducible refine Below.alloc ?_ (by go_size) _) | (with_reducible refine Below.drew ?_) | (with_reducible refine Below.set ?_ (by omega) _) | (with_reducible refine Below.after ?_ (by with_reducible assumption) (by go_size)))
end Go.Proofs.YtmleipmilmeclaaDoor
