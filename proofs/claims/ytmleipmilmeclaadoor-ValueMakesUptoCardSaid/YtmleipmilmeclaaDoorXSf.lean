/- Sorting pairs: symMerge, one on the left. -/
import Derived.Test.YtmleipmilmeclaaDoorXSe
namespace Go.Proofs.YtmleipmilmeclaaDoor
open Go.Shelf Go.RowKit Go.Lib Go.Sort
attribute [local go_sem ↓] Go.wp_at_zero Go.wp_at_succ

theorem lt_below {lt : PV → PV → Bool} (hw : SWO lt) {x y z : PV} (h1 : lt y x = false) (h2 : lt y z = true) : lt x z = true := by
  cases h : lt x z with
  | true => rfl
  | false => rw [hw.ntrans _ _ _ h1 h] at h2; cases h2

/-- d with the element at a moved up to kk. -/
structure ShL (a b : Nat) (d : Array PV) (kk : Nat) (dk : Array PV) : Prop where
  p : PermIn a b d dk
  x : dk[kk]! = d[a]!
  lo : ∀ t, a ≤ t → t < kk → dk[t]! = d[t + 1]!
  hi : ∀ t, kk < t → dk[t]! = d[t]!

theorem ShL.step {a b : Nat} {d dk : Array PV} {kk : Nat} (h : ShL a b d kk dk) (ha : a ≤ kk) (hk : kk + 1 < b) (hb : b ≤ d.size) : ShL a b d (kk + 1) (swp dk kk (kk + 1)) := by
  have hs : dk.size = d.size := h.p.1
  have g := fun t => swp_get dk (i := kk) (j := kk + 1) (by omega) (by omega) t
  refine ⟨permIn_trans _ _ _ _ _ h.p (swp_permIn _ _ _ _ _ ha (by omega) (by omega) hk (by omega)), ?_, fun t h1 h2 => ?_, fun t h1 => ?_⟩
  · rw [g, if_pos rfl]; exact h.x
  · rw [g, if_neg (by omega)]
    rcases Nat.lt_or_ge t kk with ht | ht
    · rw [if_neg (by omega)]; exact h.lo t h1 ht
    · obtain rfl : t = kk := by omega
      rw [if_pos rfl]; exact h.hi _ (by omega)
  · rw [g, if_neg (by omega), if_neg (by omega)]; exact h.hi t (by omega)

theorem ShL.sorted {lt : PV → PV → Bool} (hw : SWO lt) {a b i : Nat} {d dk : Array PV} (h : ShL a b d (i - 1) dk) (hi : a + 1 ≤ i) (hi2 : i ≤ b) (hso : SortedIn lt (a + 1) b d) (h1 : ∀ t, a + 1 ≤ t → t < i → lt d[t]! d[a]! = true) (h2 : ∀ t, i ≤ t → t < b → lt d[t]! d[a]! = false) : SortedIn lt a b dk := by
  intro p q hp hpq hq
  rcases Nat.lt_trichotomy p (i - 1) with hp1 | hp1 | hp1
  · rw [h.lo p hp hp1]
    rcases Nat.lt_trichotomy q (i - 1) with hq1 | hq1 | hq1
    · rw [h.lo q (by omega) hq1]; exact hso (p + 1) (q + 1) (by omega) (by omega) (by omega)
    · rw [hq1, h.x]; exact hw.asymmA (h1 (p + 1) (by omega) (by omega))
    · rw [h.hi q hq1]; exact hso (p + 1) q (by omega) (by omega) hq
  · rw [hp1, h.x, h.hi q (by omega)]; exact h2 q (by omega) hq
  · rw [h.hi p hp1, h.hi q (by omega)]; exact hso p q (by omega) hpq hq

set_option maxHeartbeats 4000000 in
set_option maxRecDepth 1000000 in
theorem symLeft_any {P : Program} {k : Nat} {enc : PV → List Value} {cf : PV → PV → Int} (L : SortEnv P k) (blk off cap a b : Nat) (d0 d : Array PV) (w0 w : World)
    (hcmp : CmpLays P 42 #[] enc k cf blk off d0.size w0) (hw : SWO (ltOf cf))
    (R : RowK enc k w0 blk off d0) (hs : d0.size = d.size) (S : SWK enc k w0 blk off d w) (hab : a + 1 < b) (hb : b ≤ d.size) (hsz : d.size < 1099511627776) (hso : SortedIn (ltOf cf) (a + 1) b d) :
    Calls P 81 #[.slice (some ⟨blk, off, none⟩) d.size cap, .int .i64 a, .int .i64 ((a + 1 : Nat) : Int), .int .i64 b, fnC] w fun e w' => e = .returned (.tuple #[]) ∧ ∃ d', SWK enc k w0 blk off d' w' ∧ PermIn a b d d' ∧ SortedIn (ltOf cf) a b d' := by
  have mixed := L.mixed; have t0 := L.t0; have a0 := L.a0; have z0 := L.z0; have v0 := L.v0; have t3 := L.t3; have a3 := L.a3; have z3 := L.z3; have v3 := L.v3; have t4 := L.t4; have a4 := L.a4; have z4 := L.z4; have v4 := L.v4; have t48 := L.t48; have a48 := L.a48; have z48 := L.z48; have v48 := L.v48; have t85 := L.t85; have a85 := L.a85; have z85 := L.z85; have v85 := L.v85; have t113 := L.t113; have a113 := L.a113; have z113 := L.z113; have v113 := L.v113; have aE := L.aE; have zE := L.zE
  have F81 := L.f81
  have e42 : ∀ args w, (callFunc 42 args).run P w = .ok (.enter 42 args) w := enters_of L.f42 (by kernel_rfl) rfl
  have HC : Aside _ := hcmp
  have HW : Aside _ := hw
  have HSO : Aside _ := hso
  have S0 : Aside (SWK enc k w0 blk off d w) := S
  clear S hcmp hw hso
  have w1 : IntKind.i64.wrap (((a + 1 : Nat) : Int) - a) = 1 := by rw [IntKind.wrap_i64]; omega
  have m1 : ((a + 1 : Nat) : Int) - a = 1 := by omega
  obtain ⟨m, hm⟩ : ∃ m, m = a + 1 := ⟨_, rfl⟩
  rw [← hm] at w1 m1 HSO ⊢
  have hma : a < m := by omega
  have hmb : m < b := by omega
  have HM : Aside _ := hm
  clear hm
  go_enter F81, Tryd.ntmps81
  go_wp2_with fail
  go_loopg [10, 11] (b - a) (fun kx s s' wr => ∃ (i j : Nat), s = .int .i64 i ∧ s' = .int .i64 j ∧ m ≤ i ∧ i ≤ j ∧ j ≤ b ∧ j - i ≤ kx ∧ Aside (SWK enc k w0 blk off d wr) ∧ (∀ t, m ≤ t → t < i → ltOf cf d[t]! d[a]! = true) ∧ (∀ t, j ≤ t → t < b → ltOf cf d[t]! d[a]! = false))
  case atStart => exact ⟨m, b, rfl, rfl, by omega, by omega, by omega, by omega, S0, fun t h1 h2 => by omega, fun t h1 h2 => by omega⟩
  case round =>
    clear S0
    obtain ⟨i, j, rfl, rfl, hi, hij, hj, hkx, S1, h1, h2⟩ := hrel
    have H1 : Aside _ := h1
    have H2 : Aside _ := h2
    clear h1 h2
    by_cases hlt : i < j
    · have hltz : (i : Int) < (j : Int) := by omega
      obtain ⟨h, hh⟩ : ∃ h : Nat, (i + j) / 2 = h := ⟨_, rfl⟩
      have ezh : ((i : Int) + (j : Int)) / 2 = (h : Int) := by omega
      have ea5 : ((h : Int)).toNat = h := by omega
      have pa5 : (0 : Int) ≤ (h : Int) := by omega
      have ba5 : (h : Int) < (d.size : Int) := by omega
      have ec5 : ((a : Int)).toNat = a := by omega
      have pc5 : (0 : Int) ≤ (a : Int) := by omega
      have bc5 : (a : Int) < (d.size : Int) := by omega
      obtain ⟨x5, hx5⟩ : ∃ x, x = d[h]! := ⟨_, rfl⟩
      obtain ⟨y5, hy5⟩ : ∃ x, x = d[a]! := ⟨_, rfl⟩
      have l5a := S1.out.ld R (by omega) P h (by omega)
      have l5b := S1.out.ld R (by omega) P a (by omega)
      rw [← hx5] at l5a
      rw [← hy5] at l5b
      have hc5 := S1.out.cmp HC.out (by omega) x5 y5
      have HXY : Aside (x5 = d[h]! ∧ y5 = d[a]!) := ⟨hx5, hy5⟩
      have HH : Aside ((i + j) / 2 = h) := hh
      clear hx5 hy5 hh
      by_cases hv5 : cf x5 y5 < 0
      · have hd5 : decide (cf x5 y5 < 0) = true := decide_eq_true hv5
        go_wp2_with fail
        go_quiet_grown (first | (go_at_fn 42; refine Calls.grown_of (hc5 _ _)))
        have S2 : Aside (SWK enc k w0 blk off d (grow (wr.drewN nq) osq)) := S1.out.grown nq osq
        clear l5a l5b hc5 S1
        generalize grow (wr.drewN nq) osq = wv1 at S2 ⊢
        clear nq osq
        go_wp2
        have hh := HH.out
        go_roundg (j - (h + 1))
        case measure => omega
        case rel =>
          refine ⟨h + 1, j, by go_num, rfl, by omega, by omega, by omega, Nat.le_refl _, S2, fun t h1 h2 => ?_, H2.out⟩
          obtain ⟨hx, hy⟩ := HXY.out
          rw [hx, hy] at hv5
          rcases Nat.lt_or_ge t h with ht | ht
          · exact lt_below HW.out (HSO.out t h h1 ht (by omega)) (decide_eq_true hv5)
          · obtain rfl : t = h := by omega
            exact decide_eq_true hv5
      · have hd5 : decide (cf x5 y5 < 0) = false := decide_eq_false hv5
        go_wp2_with fail
        go_quiet_grown (first | (go_at_fn 42; refine Calls.grown_of (hc5 _ _)))
        have S2 : Aside (SWK enc k w0 blk off d (grow (wr.drewN nq) osq)) := S1.out.grown nq osq
        clear l5a l5b hc5 S1
        generalize grow (wr.drewN nq) osq = wv1 at S2 ⊢
        clear nq osq
        go_wp2
        have hh := HH.out
        go_roundg (h - i)
        case measure => omega
        case rel =>
          refine ⟨i, h, rfl, rfl, by omega, by omega, by omega, Nat.le_refl _, S2, H1.out, fun t h1 h2 => ?_⟩
          obtain ⟨hx, hy⟩ := HXY.out
          rw [hx, hy] at hv5
          rcases Nat.lt_or_ge h t with ht | ht
          · exact HW.out.ntrans _ _ _ (HSO.out h t (by omega) ht h2) (decide_eq_false (by omega))
          · obtain rfl : t = h := by omega
            exact decide_eq_false (by omega)
    · have hltz : ¬(i : Int) < (j : Int) := by omega
      obtain rfl : i = j := by omega
      go_wp2_with fail
      have hni : m ≤ i := hi
      go_loopg [13] (b - a) (fun kx s wr => ∃ (kk : Nat) (dk : Array PV), s = .int .i64 kk ∧ a ≤ kk ∧ kk ≤ i - 1 ∧ i - kk ≤ kx ∧ dk.size = d.size ∧ Aside (SWK enc k w0 blk off dk wr) ∧ Aside (ShL a b d kk dk))
      case atStart => exact ⟨a, d, rfl, Nat.le_refl _, by omega, by omega, rfl, S1, ⟨permIn_refl _ _ _, rfl, fun t h1 h2 => by omega, fun t h1 => rfl⟩⟩
      case round =>
        clear S1
        obtain ⟨kk, dk, rfl, hk1, hk2, hkx2, hds, S1, HS⟩ := hrel
        by_cases hlk : kk < i - 1
        · have hlkz : (kk : Int) < (i : Int) - 1 := by omega
          have wi : IntKind.i64.wrap ((i : Int) - 1) = (i : Int) - 1 := by rw [IntKind.wrap_i64]; omega
          go_wp2_with fail
          have pa44 : (0 : Int) ≤ (kk : Int) := by omega
          have ba44 : (kk : Int) < (d.size : Int) := by omega
          have ea44 : ((kk : Int)).toNat = kk := by omega
          have pc44 : (0 : Int) ≤ (kk : Int) + 1 := by omega
          have bc44 : (kk : Int) + 1 < (d.size : Int) := by omega
          have rc44 : IntKind.i64.wrap ((kk : Int) + 1) = (kk : Int) + 1 := by rw [IntKind.wrap_i64]; omega
          have ec44 : ((kk : Int) + 1).toNat = kk + 1 := by omega
          have S2 : Aside (SWK enc k w0 blk off (swp dk kk (kk + 1)) ((wr.drew.setCells blk (off + kk * k) (enc dk[kk + 1]!)).setCells blk (off + (kk + 1) * k) (enc dk[kk]!))) := S1.out.swapped R kk (kk + 1) (by omega) (by omega)
          have l44a := S1.out.ld1 R (by omega) P kk (by omega)
          have l44b := S1.out.ld1 R (by omega) P (kk + 1) (by omega)
          have s44a := S1.out.st1 R (by omega) P kk (by omega) dk[kk + 1]!
          have s44b := S1.out.st2 R (by omega) P kk (kk + 1) (by omega) (by omega) dk[kk + 1]! dk[kk]!
          have n44a : (enc dk[kk]!).length = k := R.hk _
          have n44b : (enc dk[kk + 1]!).length = k := R.hk _
          generalize enc dk[kk]! = cI44 at S2 l44a s44b n44a
          generalize enc dk[kk + 1]! = cJ44 at S2 l44b s44a s44b n44b
          clear S1
          go_big_region_o
          clear l44a l44b s44a s44b
          generalize (wr.drew.setCells blk (off + kk * k) cJ44).setCells blk (off + (kk + 1) * k) cI44 = w2 at S2 ⊢
          go_wp2
          go_roundg (i - (kk + 1))
          case measure => omega
          case rel => exact ⟨kk + 1, swp dk kk (kk + 1), by go_num, by omega, by omega, Nat.le_refl _, by rw [size_swp]; exact hds, S2, HS.out.step hk1 (by omega) hb⟩
        · have hlkz : ¬(kk : Int) < (i : Int) - 1 := by omega
          have wi : IntKind.i64.wrap ((i : Int) - 1) = (i : Int) - 1 := by rw [IntKind.wrap_i64]; omega
          go_wp2_with fail
          obtain rfl : kk = i - 1 := by omega
          have hm := HM.out
          subst hm
          exact bodyPost_ret (v := .tuple #[]) (by simp [results, Tryd.results81, go_sem]) rfl ⟨rfl, dk, S1.out, HS.out.p, HS.out.sorted HW.out hni hj HSO.out H1.out H2.out⟩

end Go.Proofs.YtmleipmilmeclaaDoor
