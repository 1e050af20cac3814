/- Sorting pairs: rotate. -/
import Derived.Test.YtmleipmilmeclaaDoorXSc
namespace Go.Proofs.YtmleipmilmeclaaDoor
open Go.Shelf Go.RowKit Go.Lib Go.Sort
attribute [local go_sem ↓] Go.wp_at_zero Go.wp_at_succ

set_option maxHeartbeats 4000000 in
set_option maxRecDepth 1000000 in
theorem rotate_any {P : Program} {k : Nat} {enc : PV → List Value} (L : SortEnv P k) (blk off cap a m b : Nat) (d0 d : Array PV) (w0 w : World)
    (R : RowK enc k w0 blk off d0) (hs : d0.size = d.size) (S : SWK enc k w0 blk off d w) (ha : a < m) (hm : m < b) (hb : b ≤ d.size) (hsz : d.size < 1099511627776) :
    Calls P 94 #[.slice (some ⟨blk, off, none⟩) d.size cap, .int .i64 a, .int .i64 m, .int .i64 b, fnC] w fun e w' => e = .returned (.tuple #[]) ∧ ∃ d', SWK enc k w0 blk off d' w' ∧ Rot d a m b d' := by
  have mixed := L.mixed; have t0 := L.t0; have a0 := L.a0; have z0 := L.z0; have v0 := L.v0; have t3 := L.t3; have a3 := L.a3; have z3 := L.z3; have v3 := L.v3; have t4 := L.t4; have a4 := L.a4; have z4 := L.z4; have v4 := L.v4; have t48 := L.t48; have a48 := L.a48; have z48 := L.z48; have v48 := L.v48; have t85 := L.t85; have a85 := L.a85; have z85 := L.z85; have v85 := L.v85; have aE := L.aE; have zE := L.zE
  have F94 := L.f94
  have e99 : ∀ args w, (callFunc 99 args).run P w = .ok (.enter 99 args) w := enters_of L.f99 (by kernel_rfl) rfl
  have S0 : Aside (SWK enc k w0 blk off d w) := S
  clear S
  go_enter F94, Tryd.ntmps94
  go_wp2_with fail
  go_loopg [10, 11] (b - a) (fun kx s s' wr => ∃ (i j : Nat) (dk : Array PV), s = .int .i64 i ∧ s' = .int .i64 j ∧ 1 ≤ i ∧ 1 ≤ j ∧ i ≤ m - a ∧ j ≤ b - m ∧ i + j ≤ kx ∧ dk.size = d.size ∧ Aside (SWK enc k w0 blk off dk wr) ∧ Aside (∀ d', Rot dk (m - i) m (m + j) d' → Rot d a m b d'))
  case atStart => exact ⟨m - a, b - m, d, by congr 1; omega, by congr 1; omega, by omega, by omega, by omega, by omega, by omega, rfl, S0, fun d' h => by rwa [show m - (m - a) = a by omega, show m + (b - m) = b by omega] at h⟩
  case round =>
    clear S0
    obtain ⟨i, j, dk, rfl, rfl, hi, hj, hi2, hj2, hkx, hds, S1, heq⟩ := hrel
    have hs' : d0.size = dk.size := by omega
    rcases Nat.lt_trichotomy i j with hij | rfl | hij
    · have hc := Lib.hid (swapRange_any L blk off cap (m - i) (m + j - i) i d0 dk w0 wr R hs' S1.out (by omega) (by omega) (by omega))
      rw [hds, show ((m - i : Nat) : Int) = (m : Int) - i by omega, show ((m + j - i : Nat) : Int) = (m : Int) + j - i by omega] at hc
      have hne : ((i : Int) == (j : Int)) = false := by simp; omega
      have hgt : ¬(j : Int) < (i : Int) := by omega
      have hr := fun d' h => heq d' (rot_lt dk d' m i j hij (by omega) (by omega) h)
      have hr' : Aside _ := hr
      have hz2 := size_swpRange i dk (m - i) (m + j - i)
      clear heq S1 hr
      generalize swpRange dk (m - i) (m + j - i) i = dn at *
      go_wp2_with (first | (go_at_call 99; refine hc.out.mono ?_; rintro e w1 ⟨rfl, S2⟩; have S3 : Aside _ := S2; clear S2))
      go_roundg j
      case measure => omega
      case rel => exact ⟨i, j - i, dn, rfl, by congr 1; omega, by omega, by omega, by omega, by omega, by omega, by omega, S3.out, hr'.out⟩
    · have hc := Lib.hid (swapRange_any L blk off cap (m - i) m i d0 dk w0 wr R hs' S1.out (by omega) (by omega) (by omega))
      rw [hds, show ((m - i : Nat) : Int) = (m : Int) - i by omega] at hc
      have hr := heq _ (rot_end dk m i (by omega) (by omega))
      have hr' : Aside _ := hr
      clear heq S1 hr
      generalize swpRange dk (m - i) m i = dn at *
      go_wp2_with (first | (go_at_call 99; refine hc.out.mono ?_; rintro e w1 ⟨rfl, S2⟩; have S3 : Aside _ := S2; clear S2))
      go_end0
      exact ⟨rfl, dn, S3.out, hr'.out⟩
    · have hc := Lib.hid (swapRange_any L blk off cap (m - i) m j d0 dk w0 wr R hs' S1.out (by omega) (by omega) (by omega))
      rw [hds, show ((m - i : Nat) : Int) = (m : Int) - i by omega] at hc
      have hne : ((i : Int) == (j : Int)) = false := by simp; omega
      have hgt : (j : Int) < (i : Int) := by omega
      have hr := fun d' h => heq d' (rot_gt dk d' m i j hij (by omega) (by omega) h)
      have hr' : Aside _ := hr
      have hz2 := size_swpRange j dk (m - i) m
      clear heq S1 hr
      generalize swpRange dk (m - i) m j = dn at *
      go_wp2_with (first | (go_at_call 99; refine hc.out.mono ?_; rintro e w1 ⟨rfl, S2⟩; have S3 : Aside _ := S2; clear S2))
      go_roundg i
      case measure => omega
      case rel => exact ⟨i - j, j, dn, by congr 1; omega, rfl, by omega, by omega, by omega, by omega, by omega, by omega, S3.out, hr'.out⟩

end Go.Proofs.YtmleipmilmeclaaDoor
