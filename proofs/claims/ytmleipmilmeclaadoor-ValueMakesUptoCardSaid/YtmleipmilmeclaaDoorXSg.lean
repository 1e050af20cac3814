/- Sorting pairs: symMerge, one on the right. -/
import Derived.Test.YtmleipmilmeclaaDoorXSf
namespace Go.Proofs.YtmleipmilmeclaaDoor
open Go.Shelf Go.RowKit Go.Lib Go.Sort
attribute [local go_sem ↓] Go.wp_at_zero Go.wp_at_succ

/-- d with the element at m moved down to kk. -/
structure ShR (a b m : Nat) (d : Array PV) (kk : Nat) (dk : Array PV) : Prop where
  p : PermIn a b d dk
  x : dk[kk]! = d[m]!
  hi : ∀ t, kk < t → t ≤ m → dk[t]! = d[t - 1]!
  lo : ∀ t, t < kk → dk[t]! = d[t]!

theorem ShR.step {a b m : Nat} {d dk : Array PV} {kp : Nat} (h : ShR a b m d (kp + 1) dk) (ha : a ≤ kp) (hk : kp + 1 < b) (hb : b ≤ d.size) : ShR a b m d kp (swp dk (kp + 1) kp) := by
  have hs : dk.size = d.size := h.p.1
  have g := fun t => swp_get dk (i := kp + 1) (j := kp) (by omega) (by omega) t
  refine ⟨permIn_trans _ _ _ _ _ h.p (swp_permIn _ _ _ _ _ (by omega) hk ha (by omega) (by omega)), ?_, fun t h1 h2 => ?_, fun t h1 => ?_⟩
  · rw [g, if_pos rfl]; exact h.x
  · rw [g, if_neg (by omega)]
    rcases Nat.lt_or_ge (kp + 1) t with ht | ht
    · rw [if_neg (by omega)]; exact h.hi t ht h2
    · obtain rfl : t = kp + 1 := by omega
      rw [if_pos rfl]; exact h.lo _ (by omega)
  · rw [g, if_neg (by omega), if_neg (by omega)]; exact h.lo t (by omega)

theorem ShR.sorted {lt : PV → PV → Bool} (hw : SWO lt) {a m i : Nat} {d dk : Array PV} (h : ShR a (m + 1) m d i dk) (hai : a ≤ i) (hso : SortedIn lt a m d) (h1 : ∀ t, a ≤ t → t < i → lt d[m]! d[t]! = false) (h2 : ∀ t, i ≤ t → t < m → lt d[m]! d[t]! = true) : SortedIn lt a (m + 1) dk := by
  intro p q hp hpq hq
  rcases Nat.lt_trichotomy p i with hp1 | hp1 | hp1
  · rw [h.lo p hp1]
    rcases Nat.lt_trichotomy q i with hq1 | hq1 | hq1
    · rw [h.lo q hq1]
      rcases Nat.lt_or_ge q m with hqm | hqm
      · exact hso p q hp hpq hqm
      · obtain rfl : q = m := by omega
        exact h1 p hp hp1
    · rw [hq1, h.x]; exact h1 p hp hp1
    · rw [h.hi q hq1 (by omega)]
      exact hso p (q - 1) hp (by omega) (by omega)
  · rw [hp1, h.x, h.hi q (by omega) (by omega)]; exact hw.asymmA (h2 (q - 1) (by omega) (by omega))
  · rw [h.hi p hp1 (by omega), h.hi q (by omega) (by omega)]; exact hso (p - 1) (q - 1) (by omega) (by omega) (by omega)

theorem lt_above {lt : PV → PV → Bool} (hw : SWO lt) {x y z : PV} (h1 : lt z y = false) (h2 : lt x y = true) : lt x z = true := by
  cases h : lt x z with
  | true => rfl
  | false => rw [hw.ntrans _ _ _ h h1] at h2; cases h2

set_option maxHeartbeats 4000000 in
set_option maxRecDepth 1000000 in
theorem symRight_any {P : Program} {k : Nat} {enc : PV → List Value} {cf : PV → PV → Int} (L : SortEnv P k) (blk off cap a m : Nat) (d0 d : Array PV) (w0 w : World)
    (hcmp : CmpLays P 42 #[] enc k cf blk off d0.size w0) (hw : SWO (ltOf cf))
    (R : RowK enc k w0 blk off d0) (hs : d0.size = d.size) (S : SWK enc k w0 blk off d w) (hab : a + 1 < m) (hb : m + 1 ≤ d.size) (hsz : d.size < 1099511627776) (hso : SortedIn (ltOf cf) a m d) :
    Calls P 81 #[.slice (some ⟨blk, off, none⟩) d.size cap, .int .i64 a, .int .i64 m, .int .i64 ((m + 1 : Nat) : Int), fnC] w fun e w' => e = .returned (.tuple #[]) ∧ ∃ d', SWK enc k w0 blk off d' w' ∧ PermIn a (m + 1) d d' ∧ SortedIn (ltOf cf) a (m + 1) d' := by
  have mixed := L.mixed; have t0 := L.t0; have a0 := L.a0; have z0 := L.z0; have v0 := L.v0; have t3 := L.t3; have a3 := L.a3; have z3 := L.z3; have v3 := L.v3; have t4 := L.t4; have a4 := L.a4; have z4 := L.z4; have v4 := L.v4; have t48 := L.t48; have a48 := L.a48; have z48 := L.z48; have v48 := L.v48; have t85 := L.t85; have a85 := L.a85; have z85 := L.z85; have v85 := L.v85; have t113 := L.t113; have a113 := L.a113; have z113 := L.z113; have v113 := L.v113; have aE := L.aE; have zE := L.zE
  have F81 := L.f81
  have e42 : ∀ args w, (callFunc 42 args).run P w = .ok (.enter 42 args) w := enters_of L.f42 (by kernel_rfl) rfl
  have HC : Aside _ := hcmp
  have HW : Aside _ := hw
  have HSO : Aside _ := hso
  have S0 : Aside (SWK enc k w0 blk off d w) := S
  clear S hcmp hw hso
  have m0 : ((m : Int) - (a : Int) == 1) = false := by simp; omega
  have m1 : ((m + 1 : Nat) : Int) - m = 1 := by omega
  obtain ⟨b, hbm⟩ : ∃ b, b = m + 1 := ⟨_, rfl⟩
  rw [← hbm] at m1 ⊢
  have hmb : m < b := by omega
  have hbs : b ≤ d.size := by omega
  have HM : Aside _ := hbm
  clear hbm
  go_enter F81, Tryd.ntmps81
  go_wp2_with fail
  go_loopg [14, 15] (m - a) (fun kx s s' wr => ∃ (i j : Nat), s = .int .i64 i ∧ s' = .int .i64 j ∧ a ≤ i ∧ i ≤ j ∧ j ≤ m ∧ j - i ≤ kx ∧ Aside (SWK enc k w0 blk off d wr) ∧ (∀ t, a ≤ t → t < i → ltOf cf d[m]! d[t]! = false) ∧ (∀ t, j ≤ t → t < m → ltOf cf d[m]! d[t]! = true))
  case atStart => exact ⟨a, m, rfl, rfl, by omega, by omega, by omega, by omega, S0, fun t h1 h2 => by omega, fun t h1 h2 => by omega⟩
  case round =>
    clear S0
    obtain ⟨i, j, rfl, rfl, hi, hij, hj, hkx, S1, h1, h2⟩ := hrel
    have H1 : Aside _ := h1
    have H2 : Aside _ := h2
    clear h1 h2
    by_cases hlt : i < j
    · have hltz : (i : Int) < (j : Int) := by omega
      obtain ⟨h, hh⟩ : ∃ h : Nat, (i + j) / 2 = h := ⟨_, rfl⟩
      have ezh : ((i : Int) + (j : Int)) / 2 = (h : Int) := by omega
      have ea5 : ((h : Int)).toNat = h := by omega
      have pa5 : (0 : Int) ≤ (h : Int) := by omega
      have ba5 : (h : Int) < (d.size : Int) := by omega
      have ec5 : ((m : Int)).toNat = m := by omega
      have pc5 : (0 : Int) ≤ (m : Int) := by omega
      have bc5 : (m : Int) < (d.size : Int) := by omega
      obtain ⟨x5, hx5⟩ : ∃ x, x = d[m]! := ⟨_, rfl⟩
      obtain ⟨y5, hy5⟩ : ∃ x, x = d[h]! := ⟨_, rfl⟩
      have l5a := S1.out.ld R (by omega) P m (by omega)
      have l5b := S1.out.ld R (by omega) P h (by omega)
      rw [← hx5] at l5a
      rw [← hy5] at l5b
      have hc5 := S1.out.cmp HC.out (by omega) x5 y5
      have HXY : Aside (x5 = d[m]! ∧ y5 = d[h]!) := ⟨hx5, hy5⟩
      have HH : Aside ((i + j) / 2 = h) := hh
      clear hx5 hy5 hh
      by_cases hv5 : cf x5 y5 < 0
      · have hd5 : decide (cf x5 y5 < 0) = true := decide_eq_true hv5
        go_wp2_with fail
        go_quiet_grown (first | (go_at_fn 42; refine Calls.grown_of (hc5 _ _)))
        have S2 : Aside (SWK enc k w0 blk off d (grow (wr.drewN nq) osq)) := S1.out.grown nq osq
        clear l5a l5b hc5 S1
        generalize grow (wr.drewN nq) osq = wv1 at S2 ⊢
        clear nq osq
        go_wp2
        have hh := HH.out
        go_roundg (h - i)
        case measure => omega
        case rel =>
          refine ⟨i, h, rfl, rfl, by omega, by omega, by omega, Nat.le_refl _, S2, H1.out, fun t h1 h2 => ?_⟩
          obtain ⟨hx, hy⟩ := HXY.out
          rw [hx, hy] at hv5
          rcases Nat.lt_or_ge h t with ht | ht
          · exact lt_above HW.out (HSO.out h t (by omega) ht h2) (decide_eq_true hv5)
          · obtain rfl : t = h := by omega
            exact decide_eq_true hv5
      · have hd5 : decide (cf x5 y5 < 0) = false := decide_eq_false hv5
        go_wp2_with fail
        go_quiet_grown (first | (go_at_fn 42; refine Calls.grown_of (hc5 _ _)))
        have S2 : Aside (SWK enc k w0 blk off d (grow (wr.drewN nq) osq)) := S1.out.grown nq osq
        clear l5a l5b hc5 S1
        generalize grow (wr.drewN nq) osq = wv1 at S2 ⊢
        clear nq osq
        go_wp2
        have hh := HH.out
        go_roundg (j - (h + 1))
        case measure => omega
        case rel =>
          refine ⟨h + 1, j, by go_num, rfl, by omega, by omega, by omega, Nat.le_refl _, S2, fun t h1 h2 => ?_, H2.out⟩
          obtain ⟨hx, hy⟩ := HXY.out
          rw [hx, hy] at hv5
          rcases Nat.lt_or_ge t h with ht | ht
          · exact HW.out.ntrans _ _ _ (decide_eq_false (by omega)) (HSO.out t h h1 ht (by omega))
          · obtain rfl : t = h := by omega
            exact decide_eq_false (by omega)
    · have hltz : ¬(i : Int) < (j : Int) := by omega
      obtain rfl : i = j := by omega
      go_wp2_with fail
      go_loopg [17] (m - a) (fun kx s wr => ∃ (kk : Nat) (dk : Array PV), s = .int .i64 kk ∧ i ≤ kk ∧ kk ≤ m ∧ kk - i ≤ kx ∧ dk.size = d.size ∧ Aside (SWK enc k w0 blk off dk wr) ∧ Aside (ShR a b m d kk dk))
      case atStart => exact ⟨m, d, rfl, by omega, Nat.le_refl _, by omega, rfl, S1, ⟨permIn_refl _ _ _, rfl, fun t h1 h2 => by omega, fun t h1 => rfl⟩⟩
      case round =>
        clear S1
        obtain ⟨kk, dk, rfl, hk1, hk2, hkx2, hds, S1, HS⟩ := hrel
        by_cases hlk : i < kk
        · obtain ⟨kp, rfl⟩ : ∃ kp, kk = kp + 1 := ⟨kk - 1, by omega⟩
          have hlkz : (i : Int) < (kp : Int) + 1 := by omega
          go_wp2_with fail
          have pa44 : (0 : Int) ≤ (kp : Int) + 1 := by omega
          have ba44 : (kp : Int) + 1 < (d.size : Int) := by omega
          have ea44 : ((kp : Int) + 1).toNat = kp + 1 := by omega
          have pc44 : (0 : Int) ≤ (kp : Int) := by omega
          have bc44 : (kp : Int) < (d.size : Int) := by omega
          have rc44 : IntKind.i64.wrap (kp : Int) = (kp : Int) := by rw [IntKind.wrap_i64]; omega
          have ec44 : ((kp : Int)).toNat = kp := by omega
          have S2 : Aside (SWK enc k w0 blk off (swp dk (kp + 1) kp) ((wr.drew.setCells blk (off + (kp + 1) * k) (enc dk[kp]!)).setCells blk (off + kp * k) (enc dk[kp + 1]!))) := S1.out.swapped R (kp + 1) kp (by omega) (by omega)
          have l44a := S1.out.ld1 R (by omega) P (kp + 1) (by omega)
          have l44b := S1.out.ld1 R (by omega) P kp (by omega)
          have s44a := S1.out.st1 R (by omega) P (kp + 1) (by omega) dk[kp]!
          have s44b := S1.out.st2 R (by omega) P (kp + 1) kp (by omega) (by omega) dk[kp]! dk[kp + 1]!
          have n44a : (enc dk[kp + 1]!).length = k := R.hk _
          have n44b : (enc dk[kp]!).length = k := R.hk _
          generalize enc dk[kp + 1]! = cI44 at S2 l44a s44b n44a
          generalize enc dk[kp]! = cJ44 at S2 l44b s44a s44b n44b
          clear S1
          go_big_region_o
          clear l44a l44b s44a s44b
          generalize (wr.drew.setCells blk (off + (kp + 1) * k) cJ44).setCells blk (off + kp * k) cI44 = w2 at S2 ⊢
          go_wp2
          go_roundg (kp - i)
          case measure => omega
          case rel => exact ⟨kp, swp dk (kp + 1) kp, by first | rfl | go_num | (congr 1; omega), by omega, by omega, Nat.le_refl _, by rw [size_swp]; exact hds, S2, HS.out.step (by omega) (by omega) hbs⟩
        · have hlkz : ¬(i : Int) < (kk : Int) := by omega
          go_wp2_with fail
          obtain rfl : kk = i := by omega
          have hm := HM.out
          subst hm
          exact bodyPost_ret (v := .tuple #[]) (by simp [results, Tryd.results81, go_sem]) rfl ⟨rfl, dk, S1.out, HS.out.p, HS.out.sorted HW.out hi HSO.out H1.out H2.out⟩

end Go.Proofs.YtmleipmilmeclaaDoor

/- Sorting pairs: symMerge's general step, in plain Lean. -/
namespace Go.Proofs.YtmleipmilmeclaaDoor
open Go.Sort

theorem permIn_at {a b : Nat} {d d' : Array PV} (h : PermIn a b d d') (t : Nat) (ht : t < a ∨ b ≤ t) : d'[t]! = d[t]! := h.2.1 t ht

/-- Two halves, each sorted behind; nothing of the right one below the left one. -/
theorem sym_final {lt : PV → PV → Bool} {a mid b : Nat} {d1 d2 d3 : Array PV} (ham : a ≤ mid) (hmb : mid ≤ b) (hb : b ≤ d1.size) (h12 : PermIn a mid d1 d2) (h23 : PermIn mid b d2 d3)
    (s2 : SortedIn lt a mid d2) (s3 : SortedIn lt mid b d3) (hx : ∀ p q, a ≤ p → p < mid → mid ≤ q → q < b → lt d1[q]! d1[p]! = false) : PermIn a b d1 d3 ∧ SortedIn lt a b d3 := by
  have z2 : d2.size = d1.size := h12.1
  refine ⟨permIn_trans _ _ _ _ _ (permIn_mono _ _ _ _ _ _ (Nat.le_refl _) hmb hb h12) (permIn_mono _ _ _ _ _ _ ham (Nat.le_refl _) (by omega) h23), fun p q hp hpq hq => ?_⟩
  rcases Nat.lt_or_ge q mid with hq1 | hq1
  · rw [permIn_at h23 p (.inl (by omega)), permIn_at h23 q (.inl hq1)]; exact s2 p q hp hpq hq1
  · rcases Nat.lt_or_ge p mid with hp1 | hp1
    · rw [permIn_at h23 p (.inl hp1)]
      refine permIn_all d2 d3 mid b (fun y => lt y d2[p]! = false) (by omega) h23 (fun i hi1 hi2 => ?_) q hq1 hq
      rw [permIn_at h12 i (.inr hi1)]
      exact permIn_all d1 d2 a mid (fun x => lt d1[i]! x = false) (by omega) h12 (fun j hj1 hj2 => hx j i hj1 hj2 hi1 hi2) p hp hp1
    · exact s3 p q hp1 hpq hq

/-- The two places between which symMerge looks, and what stands at them. -/
structure SymAt (lt : PV → PV → Bool) (a m b n s : Nat) (d : Array PV) : Prop where
  ha : a ≤ s
  sm : s ≤ m
  me : m + s ≤ n
  eb : n ≤ b + s
  left : (∀ p, p < s → a ≤ p → n - s < b → lt d[n - s]! d[p]! = false)
  right : (∀ q, m ≤ q → q < n - s → s < m → lt d[q]! d[s]! = true)

/-- Behind the rotation: four rising parts; nothing of the right half below the left one. -/
theorem sym_rot {lt : PV → PV → Bool} (hw : SWO lt) {a m b mid s : Nat} {d d1 : Array PV} (hb : b ≤ d.size) (h1 : SortedIn lt a m d) (h2 : SortedIn lt m b d) (hs : SymAt lt a m b (mid + m) s d) (hr : Rot d s m (mid + m - s) d1) :
    SortedIn lt a s d1 ∧ SortedIn lt s mid d1 ∧ SortedIn lt mid (mid + m - s) d1 ∧ SortedIn lt (mid + m - s) b d1 ∧ ∀ p q, a ≤ p → p < mid → mid ≤ q → q < b → lt d1[q]! d1[p]! = false := by
  obtain ⟨has, sm, me, eb, hl, hrr⟩ := hs
  have g1 : ∀ t, t < s → d1[t]! = d[t]! := fun t ht => permIn_at hr.1 t (.inl ht)
  have g2 : ∀ t, s ≤ t → t < mid → d1[t]! = d[t + (m - s)]! := fun t h1 h2 => by
    rw [hr.2 t (by omega)]; unfold rotIx; rw [if_pos (by omega)]
  have g3 : ∀ t, mid ≤ t → t < mid + m - s → d1[t]! = d[t - (mid - s)]! := fun t h1 h2 => by
    rw [hr.2 t (by omega)]; unfold rotIx; rw [if_neg (by omega), if_pos (by omega), show mid + m - s - m = mid - s by omega]
  have g4 : ∀ t, mid + m - s ≤ t → d1[t]! = d[t]! := fun t ht => permIn_at hr.1 t (.inr ht)
  refine ⟨fun p q hp hpq hq => ?_, fun p q hp hpq hq => ?_, fun p q hp hpq hq => ?_, fun p q hp hpq hq => ?_, fun p q hp hp2 hq hq2 => ?_⟩
  · rw [g1 p (by omega), g1 q hq]; exact h1 p q hp hpq (by omega)
  · rw [g2 p hp (by omega), g2 q (by omega) hq]; exact h2 _ _ (by omega) (by omega) (by omega)
  · rw [g3 p hp (by omega), g3 q (by omega) hq]; exact h1 _ _ (by omega) (by omega) (by omega)
  · rw [g4 p hp, g4 q (by omega)]; exact h2 _ _ (by omega) hpq hq
  · rcases Nat.lt_or_ge p s with hp3 | hp3
    · rw [g1 p hp3]
      rcases Nat.lt_or_ge q (mid + m - s) with hq3 | hq3
      · rw [g3 q hq hq3]; exact h1 _ _ hp (by omega) (by omega)
      · rw [g4 q hq3]
        have := hl p hp3 hp (by omega)
        rcases Nat.lt_or_ge (mid + m - s) q with h | h
        · exact hw.ntrans _ _ _ (h2 (mid + m - s) q (by omega) h hq2) this
        · have e : mid + m - s = q := by omega
          rwa [e] at this
    · rw [g2 p hp3 hp2]
      rcases Nat.lt_or_ge q (mid + m - s) with hq3 | hq3
      · rw [g3 q hq hq3]
        have := hw.asymmA (hrr (p + (m - s)) (by omega) (by omega) (by omega))
        rcases Nat.lt_or_ge s (q - (mid - s)) with h | h
        · exact hw.ntrans _ _ _ (h1 s (q - (mid - s)) has h (by omega)) this
        · have e : q - (mid - s) = s := by omega
          rwa [e]
      · rw [g4 q hq3]; exact h2 _ _ (by omega) (by omega) hq2

/-- What the search leaves. -/
theorem sym_at {lt : PV → PV → Bool} (hw : SWO lt) {a m b n lo hi s : Nat} {d : Array PV} (h1 : SortedIn lt a m d) (h2 : SortedIn lt m b d) (hlo : a ≤ lo) (hls : lo ≤ s) (hsh : s ≤ hi) (hhm : hi ≤ m) (hn1 : m + hi ≤ n) (hn2 : n ≤ b + lo)
    (he1 : lo = a ∨ n = b + lo) (he2 : hi = m ∨ n = m + hi) (k1 : ∀ t, lo ≤ t → t < s → lt d[n - 1 - t]! d[t]! = false) (k2 : ∀ t, s ≤ t → t < hi → lt d[n - 1 - t]! d[t]! = true) : SymAt lt a m b n s d := by
  refine ⟨by omega, by omega, by omega, by omega, fun p hp hap hb => ?_, fun q hq hq2 hsm => ?_⟩
  · rcases Nat.lt_or_ge lo s with h | h
    · have := k1 (s - 1) (by omega) (by omega)
      rw [show n - 1 - (s - 1) = n - s by omega] at this
      rcases Nat.lt_or_ge p (s - 1) with h' | h'
      · exact hw.ntrans _ _ _ this (h1 p (s - 1) hap h' (by omega))
      · obtain rfl : p = s - 1 := by omega
        exact this
    · omega
  · rcases Nat.lt_or_ge s hi with h | h
    · have := k2 s (Nat.le_refl _) h
      rcases Nat.lt_or_ge q (n - 1 - s) with h' | h'
      · exact lt_below hw (h2 q (n - 1 - s) hq h' (by omega)) this
      · obtain rfl : q = n - 1 - s := by omega
        exact this
    · omega

end Go.Proofs.YtmleipmilmeclaaDoor
