/- Sorting pairs: symMerge. -/
import Derived.Test.YtmleipmilmeclaaDoorXSg
namespace Go.Proofs.YtmleipmilmeclaaDoor
open Go.Shelf Go.RowKit Go.Lib Go.Sort
attribute [local go_sem ↓] Go.wp_at_zero Go.wp_at_succ

theorem rot_id (d : Array PV) (s m e : Nat) (h1 : s ≤ m) (h2 : m ≤ e) (h : s = m ∨ m = e) : Rot d s m e d :=
  ⟨permIn_refl _ _ _, fun t _ => by
    have : rotIx s m e t = t := by
      unfold rotIx
      repeat' split
      all_goals omega
    rw [this]⟩

set_option maxHeartbeats 8000000 in
set_option maxRecDepth 1000000 in
theorem symMerge_any {P : Program} {k : Nat} {enc : PV → List Value} {cf : PV → PV → Int} (L : SortEnv P k) (blk off cap : Nat) (d0 : Array PV) (w0 : World)
    (hcmp : CmpLays P 42 #[] enc k cf blk off d0.size w0) (hw : SWO (ltOf cf)) (R : RowK enc k w0 blk off d0) (hsz : d0.size < 1099511627776) :
    ∀ (N a m b : Nat) (d : Array PV) (w : World), b - a ≤ N → d0.size = d.size → SWK enc k w0 blk off d w → a < m → m < b → b ≤ d.size → SortedIn (ltOf cf) a m d → SortedIn (ltOf cf) m b d →
    Calls P 81 #[.slice (some ⟨blk, off, none⟩) d.size cap, .int .i64 a, .int .i64 m, .int .i64 b, fnC] w fun e w' => e = .returned (.tuple #[]) ∧ ∃ d', SWK enc k w0 blk off d' w' ∧ PermIn a b d d' ∧ SortedIn (ltOf cf) a b d' := by
  intro N
  induction N with
  | zero => intro a m b d w h0 _ _ h1 h2; omega
  | succ N ih =>
    intro a m b d w hN hs S ham hmb hb hso1 hso2
    rcases Nat.eq_or_lt_of_le (show a + 1 ≤ m from ham) with h | hm2
    · subst h
      exact symLeft_any L blk off cap a b d0 d w0 w hcmp hw R hs S hmb hb (by omega) hso2
    rcases Nat.eq_or_lt_of_le (show m + 1 ≤ b from hmb) with h | hb2
    · subst h
      exact symRight_any L blk off cap a m d0 d w0 w hcmp hw R hs S hm2 hb (by omega) hso1
    have mixed := L.mixed; have t0 := L.t0; have a0 := L.a0; have z0 := L.z0; have v0 := L.v0; have t3 := L.t3; have a3 := L.a3; have z3 := L.z3; have v3 := L.v3; have t4 := L.t4; have a4 := L.a4; have z4 := L.z4; have v4 := L.v4; have t48 := L.t48; have a48 := L.a48; have z48 := L.z48; have v48 := L.v48; have t85 := L.t85; have a85 := L.a85; have z85 := L.z85; have v85 := L.v85; have t113 := L.t113; have a113 := L.a113; have z113 := L.z113; have v113 := L.v113; have aE := L.aE; have zE := L.zE
    have F81 := L.f81
    have e42 : ∀ args w, (callFunc 42 args).run P w = .ok (.enter 42 args) w := enters_of L.f42 (by kernel_rfl) rfl
    have e94 : ∀ args w, (callFunc 94 args).run P w = .ok (.enter 94 args) w := enters_of L.f94 (by kernel_rfl) rfl
    have e81 : ∀ args w, (callFunc 81 args).run P w = .ok (.enter 81 args) w := enters_of L.f81 (by kernel_rfl) rfl
    have HC : Aside _ := hcmp
    have HW : Aside _ := hw
    have HS1 : Aside _ := hso1
    have HS2 : Aside _ := hso2
    have IH : Aside _ := ih
    have S0 : Aside (SWK enc k w0 blk off d w) := S
    clear S hso1 hso2 ih
    have m0 : ((m : Int) - (a : Int) == 1) = false := by simp; omega
    have m1 : ((b : Int) - (m : Int) == 1) = false := by simp; omega
    obtain ⟨mid, hmid⟩ : ∃ mid : Nat, (a + b) / 2 = mid := ⟨_, rfl⟩
    have ezm : ((a : Int) + (b : Int)) / 2 = (mid : Int) := by omega
    have hma : a < mid := by omega
    have hmb' : mid < b := by omega
    have hm3 : a + b ≤ 2 * mid + 1 := by omega
    have hm4 : 2 * mid ≤ a + b := by omega
    clear hmid
    obtain ⟨lo, hi, hcase⟩ : ∃ lo hi : Nat, (mid < m ∧ lo + b = mid + m ∧ hi = mid) ∨ (m ≤ mid ∧ lo = a ∧ hi = m) := by
      rcases Nat.lt_or_ge mid m with h | h
      · exact ⟨mid + m - b, mid, .inl ⟨h, by omega, rfl⟩⟩
      · exact ⟨a, m, .inr ⟨h, rfl, rfl⟩⟩
    have hlo : a ≤ lo := by omega
    have hlh : lo ≤ hi := by omega
    have hhm : hi ≤ m := by omega
    have hn1 : m + hi ≤ mid + m := by omega
    have hn2 : mid + m ≤ b + lo := by omega
    have he1 : lo = a ∨ mid + m = b + lo := by omega
    have he2 : hi = m ∨ mid + m = m + hi := by omega
    have HE : Aside (lo = a ∨ mid + m = b + lo) := he1
    have HE2 : Aside (hi = m ∨ mid + m = m + hi) := he2
    clear he1 he2
    have start : (mid < m ∧ (m : Int) > (mid : Int) ∧ ((mid : Int) + (m : Int) - (b : Int) = (lo : Int)) ∧ (mid : Int) = (hi : Int)) ∨ (¬(m : Int) > (mid : Int) ∧ (a : Int) = (lo : Int) ∧ (m : Int) = (hi : Int)) := by omega
    clear hcase
    go_enter F81, Tryd.ntmps81
    go_wp2_with fail
    all_goals
      go_loopg [20, 21] (hi - lo) (fun kx s r wr => ∃ (i j : Nat), s = .int .i64 i ∧ r = .int .i64 j ∧ lo ≤ i ∧ i ≤ j ∧ j ≤ hi ∧ j - i ≤ kx ∧ Aside (SWK enc k w0 blk off d wr) ∧ Aside (∀ t, lo ≤ t → t < i → ltOf cf d[mid + m - 1 - t]! d[t]! = false) ∧ Aside (∀ t, j ≤ t → t < hi → ltOf cf d[mid + m - 1 - t]! d[t]! = true))
      case atStart => exact ⟨lo, hi, by congr 1; omega, by congr 1; omega, by omega, by omega, by omega, by omega, S0, fun t h1 h2 => by omega, fun t h1 h2 => by omega⟩
      case round =>
        clear S0 start
        obtain ⟨i, j, rfl, rfl, hi1, hij, hj, hkx, S1, H1, H2⟩ := hrel
        by_cases hlt : i < j
        · have hltz : (i : Int) < (j : Int) := by omega
          obtain ⟨c, hh⟩ : ∃ c : Nat, (i + j) / 2 = c := ⟨_, rfl⟩
          have ezc : ((i : Int) + (j : Int)) / 2 = (c : Int) := by omega
          have hic : i ≤ c := by omega
          have hcj : c < j := by omega
          obtain ⟨q, hq⟩ : ∃ q : Nat, mid + m - 1 - c = q := ⟨_, rfl⟩
          have ezq : (mid : Int) + (m : Int) - 1 - (c : Int) = (q : Int) := by omega
          have rq : IntKind.i64.wrap (q : Int) = (q : Int) := by rw [IntKind.wrap_i64]; omega
          have hqb : q < b := by omega
          have hmq : m ≤ q := by omega
          have ea5 : ((q : Int)).toNat = q := by omega
          have pa5 : (0 : Int) ≤ (q : Int) := by omega
          have ba5 : (q : Int) < (d.size : Int) := by omega
          have ec5 : ((c : Int)).toNat = c := by omega
          have pc5 : (0 : Int) ≤ (c : Int) := by omega
          have bc5 : (c : Int) < (d.size : Int) := by omega
          obtain ⟨x5, hx5⟩ : ∃ x, x = d[q]! := ⟨_, rfl⟩
          obtain ⟨y5, hy5⟩ : ∃ x, x = d[c]! := ⟨_, rfl⟩
          have l5a := S1.out.ld R (by omega) P q (by omega)
          have l5b := S1.out.ld R (by omega) P c (by omega)
          rw [← hx5] at l5a
          rw [← hy5] at l5b
          have hc5 := S1.out.cmp HC.out (by omega) x5 y5
          have HXY : Aside (x5 = d[q]! ∧ y5 = d[c]!) := ⟨hx5, hy5⟩
          have HQ : Aside (mid + m - 1 - c = q) := hq
          clear hx5 hy5 hh hq
          by_cases hv5 : cf x5 y5 < 0
          · have hd5 : decide (cf x5 y5 < 0) = true := decide_eq_true hv5
            go_wp2_with fail
            go_quiet_grown (first | (go_at_fn 42; refine Calls.grown_of (hc5 _ _)))
            have S2 : Aside (SWK enc k w0 blk off d (grow (wr.drewN nq) osq)) := S1.out.grown nq osq
            clear l5a l5b hc5 S1
            generalize grow (wr.drewN nq) osq = wv1 at S2 ⊢
            clear nq osq
            go_wp2
            go_roundg (c - i)
            case measure => omega
            case rel =>
              refine ⟨i, c, rfl, rfl, by omega, by omega, by omega, Nat.le_refl _, S2, H1, fun t h1 h2 => ?_⟩
              obtain ⟨hx, hy⟩ := HXY.out
              have hq := HQ.out
              rw [hx, hy] at hv5
              rcases Nat.lt_or_ge c t with ht | ht
              · exact lt_above HW.out (HS1.out c t (by omega) ht (by omega)) (lt_below HW.out (HS2.out (mid + m - 1 - t) q (by omega) (by omega) hqb) (decide_eq_true hv5))
              · obtain rfl : t = c := by omega
                rw [hq]
                exact decide_eq_true hv5
          · have hd5 : decide (cf x5 y5 < 0) = false := decide_eq_false hv5
            go_wp2_with fail
            go_quiet_grown (first | (go_at_fn 42; refine Calls.grown_of (hc5 _ _)))
            have S2 : Aside (SWK enc k w0 blk off d (grow (wr.drewN nq) osq)) := S1.out.grown nq osq
            clear l5a l5b hc5 S1
            generalize grow (wr.drewN nq) osq = wv1 at S2 ⊢
            clear nq osq
            go_wp2
            go_roundg (j - (c + 1))
            case measure => omega
            case rel =>
              refine ⟨c + 1, j, by go_num, rfl, by omega, by omega, by omega, Nat.le_refl _, S2, fun t h1 h2 => ?_, H2⟩
              obtain ⟨hx, hy⟩ := HXY.out
              have hq := HQ.out
              rw [hx, hy] at hv5
              rcases Nat.lt_or_ge t c with ht | ht
              · exact HW.out.ntrans _ _ _ (HW.out.ntrans _ _ _ (HS2.out q (mid + m - 1 - t) hmq (by omega) (by omega)) (decide_eq_false (by omega))) (HS1.out t c (by omega) ht (by omega))
              · obtain rfl : t = c := by omega
                rw [hq]
                exact decide_eq_false (by omega)
        · have hltz : ¬(i : Int) < (j : Int) := by omega
          obtain rfl : i = j := by omega
          have HA : Aside (SymAt (ltOf cf) a m b (mid + m) i d) := sym_at HW.out HS1.out HS2.out hlo hi1 hj hhm hn1 hn2 HE.out HE2.out H1.out H2.out
          obtain ⟨e, he⟩ : ∃ e : Nat, mid + m - i = e := ⟨_, rfl⟩
          have eze : (mid : Int) + (m : Int) - (i : Int) = (e : Int) := by omega
          have hai : a ≤ i := by omega
          have him : i ≤ m := by omega
          have hme : m ≤ e := by omega
          have heb : e ≤ b := by omega
          have HEE : Aside (mid + m - i = e) := he
          clear H1 H2 he
          have hrot : (i < m ∧ m < e ∧ (i : Int) < (m : Int) ∧ (m : Int) < (e : Int)) ∨ (i = m ∧ ¬(i : Int) < (m : Int)) ∨ (m = e ∧ (i : Int) < (m : Int) ∧ ¬(m : Int) < (e : Int)) := by omega
          have key : ∀ (d1 : Array PV), d1.size = d.size → Rot d i m e d1 → ∀ d2 d3, PermIn a mid d1 d2 → PermIn mid b d2 d3 → ((a < i ∧ i < mid → SortedIn (ltOf cf) a mid d2) ∧ (¬(a < i ∧ i < mid) → d2 = d1)) → ((mid < e ∧ e < b → SortedIn (ltOf cf) mid b d3) ∧ (¬(mid < e ∧ e < b) → d3 = d2)) → PermIn a b d d3 ∧ SortedIn (ltOf cf) a b d3 := by
            intro d1 hz hr d2 d3 p12 p23 k2 k3
            have he := HEE.out
            have hr0 := hr
            rw [← he] at hr
            obtain ⟨q1, q2, q3, q4, q5⟩ := sym_rot HW.out hb HS1.out HS2.out HA.out hr
            rw [he] at q3 q4
            have him2 : i ≤ mid := by omega
            have hme2 : mid ≤ e := by omega
            have s2 : SortedIn (ltOf cf) a mid d2 := by
              by_cases hc : a < i ∧ i < mid
              · exact k2.1 hc
              · rw [k2.2 hc]
                rcases Nat.eq_or_lt_of_le hai with h | h
                · rw [h]; exact q2
                · rw [show mid = i by omega]; exact q1
            have s3 : SortedIn (ltOf cf) mid b d3 := by
              by_cases hc : mid < e ∧ e < b
              · exact k3.1 hc
              · rw [k3.2 hc]
                have : SortedIn (ltOf cf) mid b d1 := by
                  rcases Nat.eq_or_lt_of_le hme2 with h | h
                  · rw [h]; exact q4
                  · rw [show b = e by omega]; exact q3
                intro p q hp hpq hq
                rw [permIn_at p12 p (.inr hp), permIn_at p12 q (.inr (by omega))]
                exact this p q hp hpq hq
            obtain ⟨f1, f2⟩ := sym_final (by omega) (by omega) (by omega) p12 p23 s2 s3 q5
            exact ⟨permIn_trans _ _ _ _ _ (permIn_mono _ _ _ _ _ _ hai heb hb hr0.1) f1, f2⟩
          have KEY : Aside _ := key
          clear key
          have hrt := Lib.hid (fun (h1 : i < m) (h2 : m < e) => rotate_any L blk off cap i m e d0 d w0 wr R hs S1.out h1 h2 (by omega) (by omega))
          have hend : i ≤ mid ∧ mid ≤ e := by have := HEE.out; omega
          rcases hrot with ⟨r1, r2, r3, r4⟩ | ⟨r1, r3⟩ | ⟨r1, r3, r4⟩
          · go_upto_region 41 with (first | (go_at_call 94; refine (hrt.out r1 r2).mono ?_; rintro e' w1 ⟨rfl, d1, S2, HR⟩; have S3 : Aside _ := S2; have HR1 : Aside _ := HR; clear S2 HR))
            clear S1
            have hz1 : d1.size = d.size := HR1.out.1.1
            obtain ⟨Q1, Q2, Q3, Q4⟩ : Aside (SortedIn (ltOf cf) a i d1) ∧ Aside (SortedIn (ltOf cf) i mid d1) ∧ Aside (SortedIn (ltOf cf) mid e d1) ∧ Aside (SortedIn (ltOf cf) e b d1) := by
              have hr := HR1.out
              have he := HEE.out
              rw [← he] at hr ⊢
              obtain ⟨q1, q2, q3, q4, _⟩ := sym_rot HW.out hb HS1.out HS2.out HA.out hr
              exact ⟨q1, q2, q3, q4⟩
            by_cases hl : a < i ∧ i < mid
            · have hlz : (a : Int) < (i : Int) ∧ (i : Int) < (mid : Int) := by omega
              obtain ⟨hl1, hl2⟩ := hlz
              have hcl := IH.out a i mid d1 w1 (by omega) (by omega) S3.out hl.1 hl.2 (by omega) Q1.out Q2.out
              rw [hz1] at hcl
              have hcl' := Lib.hid hcl
              clear hcl
              go_upto_region 43 with (first | (go_at_call 81; refine hcl'.out.mono ?_; rintro e' w2 ⟨rfl, d2, S4, P12, Q12⟩; have S4' : Aside _ := S4; have P12' : Aside _ := P12; have Q12' : Aside _ := Q12; clear S4 P12 Q12))
              have hz2 : d2.size = d.size := by have := P12'.out.1; omega
              by_cases hr : mid < e ∧ e < b
              · have hrz : (mid : Int) < (e : Int) ∧ (e : Int) < (b : Int) := by omega
                obtain ⟨hr1, hr2⟩ := hrz
                have hq3 : SortedIn (ltOf cf) mid e d2 := fun p q hp hpq hq => by rw [permIn_at P12'.out p (.inr hp), permIn_at P12'.out q (.inr (by omega))]; exact Q3.out p q hp hpq hq
                have hq4 : SortedIn (ltOf cf) e b d2 := fun p q hp hpq hq => by rw [permIn_at P12'.out p (.inr (by omega)), permIn_at P12'.out q (.inr (by omega))]; exact Q4.out p q hp hpq hq
                have hcr := IH.out mid e b d2 w2 (by omega) (by omega) S4'.out hr.1 hr.2 (by omega) hq3 hq4
                rw [hz2] at hcr
                have hcr' := Lib.hid hcr
                clear hcr hq3 hq4
                go_wp2_with (first | (go_at_call 81; refine hcr'.out.mono ?_; rintro e' w3 ⟨rfl, d3, S5, P23, Q23⟩))
                go_end0
                obtain ⟨f1, f2⟩ := KEY.out _ HR1.out.1.1 HR1.out d2 d3 P12'.out P23 ⟨fun _ => Q12'.out, fun h => absurd hl h⟩ ⟨fun _ => Q23, fun h => absurd hr h⟩
                exact ⟨rfl, d3, S5, f1, f2⟩
              · have hrz : ((mid : Int) < (e : Int) ∧ ¬(e : Int) < (b : Int)) ∨ ¬(mid : Int) < (e : Int) := by omega
                have fin : ∃ d', SWK enc k w0 blk off d' w2 ∧ PermIn a b d d' ∧ SortedIn (ltOf cf) a b d' := by
                  obtain ⟨f1, f2⟩ := KEY.out _ HR1.out.1.1 HR1.out d2 d2 P12'.out (permIn_refl _ _ _) ⟨fun _ => Q12'.out, fun h => absurd hl h⟩ ⟨fun h => absurd h hr, fun _ => rfl⟩
                  exact ⟨d2, S4'.out, f1, f2⟩
                have FIN : Aside _ := fin
                clear fin
                rcases hrz with ⟨hr1, hr2⟩ | hr1
                · go_wp2_with fail
                  go_end0
                  exact ⟨rfl, FIN.out⟩
                · go_wp2_with fail
                  go_end0
                  exact ⟨rfl, FIN.out⟩
            · have hlz : ((a : Int) < (i : Int) ∧ ¬(i : Int) < (mid : Int)) ∨ ¬(a : Int) < (i : Int) := by omega
              have P12 : PermIn a mid d1 d1 := permIn_refl _ _ _
              rcases hlz with ⟨hl1, hl2⟩ | hl1
              · go_upto_region 43 with fail
                have hz2 : d1.size = d.size := by have := P12.1; omega
                by_cases hr : mid < e ∧ e < b
                · have hrz : (mid : Int) < (e : Int) ∧ (e : Int) < (b : Int) := by omega
                  obtain ⟨hr1, hr2⟩ := hrz
                  have hq3 : SortedIn (ltOf cf) mid e d1 := fun p q hp hpq hq => by rw [permIn_at P12 p (.inr hp), permIn_at P12 q (.inr (by omega))]; exact Q3.out p q hp hpq hq
                  have hq4 : SortedIn (ltOf cf) e b d1 := fun p q hp hpq hq => by rw [permIn_at P12 p (.inr (by omega)), permIn_at P12 q (.inr (by omega))]; exact Q4.out p q hp hpq hq
                  have hcr := IH.out mid e b d1 w1 (by omega) (by omega) S3.out hr.1 hr.2 (by omega) hq3 hq4
                  rw [hz2] at hcr
                  have hcr' := Lib.hid hcr
                  clear hcr hq3 hq4
                  go_wp2_with (first | (go_at_call 81; refine hcr'.out.mono ?_; rintro e' w3 ⟨rfl, d3, S5, P23, Q23⟩))
                  go_end0
                  obtain ⟨f1, f2⟩ := KEY.out _ HR1.out.1.1 HR1.out d1 d3 P12 P23 ⟨fun h => absurd h hl, fun _ => rfl⟩ ⟨fun _ => Q23, fun h => absurd hr h⟩
                  exact ⟨rfl, d3, S5, f1, f2⟩
                · have hrz : ((mid : Int) < (e : Int) ∧ ¬(e : Int) < (b : Int)) ∨ ¬(mid : Int) < (e : Int) := by omega
                  have fin : ∃ d', SWK enc k w0 blk off d' w1 ∧ PermIn a b d d' ∧ SortedIn (ltOf cf) a b d' := by
                    obtain ⟨f1, f2⟩ := KEY.out _ HR1.out.1.1 HR1.out d1 d1 P12 (permIn_refl _ _ _) ⟨fun h => absurd h hl, fun _ => rfl⟩ ⟨fun h => absurd h hr, fun _ => rfl⟩
                    exact ⟨d1, S3.out, f1, f2⟩
                  have FIN : Aside _ := fin
                  clear fin
                  rcases hrz with ⟨hr1, hr2⟩ | hr1
                  · go_wp2_with fail
                    go_end0
                    exact ⟨rfl, FIN.out⟩
                  · go_wp2_with fail
                    go_end0
                    exact ⟨rfl, FIN.out⟩
              · go_upto_region 43 with fail
                have hz2 : d1.size = d.size := by have := P12.1; omega
                by_cases hr : mid < e ∧ e < b
                · have hrz : (mid : Int) < (e : Int) ∧ (e : Int) < (b : Int) := by omega
                  obtain ⟨hr1, hr2⟩ := hrz
                  have hq3 : SortedIn (ltOf cf) mid e d1 := fun p q hp hpq hq => by rw [permIn_at P12 p (.inr hp), permIn_at P12 q (.inr (by omega))]; exact Q3.out p q hp hpq hq
                  have hq4 : SortedIn (ltOf cf) e b d1 := fun p q hp hpq hq => by rw [permIn_at P12 p (.inr (by omega)), permIn_at P12 q (.inr (by omega))]; exact Q4.out p q hp hpq hq
                  have hcr := IH.out mid e b d1 w1 (by omega) (by omega) S3.out hr.1 hr.2 (by omega) hq3 hq4
                  rw [hz2] at hcr
                  have hcr' := Lib.hid hcr
                  clear hcr hq3 hq4
                  go_wp2_with (first | (go_at_call 81; refine hcr'.out.mono ?_; rintro e' w3 ⟨rfl, d3, S5, P23, Q23⟩))
                  go_end0
                  obtain ⟨f1, f2⟩ := KEY.out _ HR1.out.1.1 HR1.out d1 d3 P12 P23 ⟨fun h => absurd h hl, fun _ => rfl⟩ ⟨fun _ => Q23, fun h => absurd hr h⟩
                  exact ⟨rfl, d3, S5, f1, f2⟩
                · have hrz : ((mid : Int) < (e : Int) ∧ ¬(e : Int) < (b : Int)) ∨ ¬(mid : Int) < (e : Int) := by omega
                  have fin : ∃ d', SWK enc k w0 blk off d' w1 ∧ PermIn a b d d' ∧ SortedIn (ltOf cf) a b d' := by
                    obtain ⟨f1, f2⟩ := KEY.out _ HR1.out.1.1 HR1.out d1 d1 P12 (permIn_refl _ _ _) ⟨fun h => absurd h hl, fun _ => rfl⟩ ⟨fun h => absurd h hr, fun _ => rfl⟩
                    exact ⟨d1, S3.out, f1, f2⟩
                  have FIN : Aside _ := fin
                  clear fin
                  rcases hrz with ⟨hr1, hr2⟩ | hr1
                  · go_wp2_with fail
                    go_end0
                    exact ⟨rfl, FIN.out⟩
                  · go_wp2_with fail
                    go_end0
                    exact ⟨rfl, FIN.out⟩
          · have HR1 : Aside (Rot d i m e d) := rot_id d i m e him hme (.inl r1)
            have S3 : Aside _ := S1.out
            have R1 : Aside _ := r1
            clear r1 S1
            go_upto_region 41 with fail
            have hz1 : d.size = d.size := HR1.out.1.1
            obtain ⟨Q1, Q2, Q3, Q4⟩ : Aside (SortedIn (ltOf cf) a i d) ∧ Aside (SortedIn (ltOf cf) i mid d) ∧ Aside (SortedIn (ltOf cf) mid e d) ∧ Aside (SortedIn (ltOf cf) e b d) := by
              have hr := HR1.out
              have he := HEE.out
              rw [← he] at hr ⊢
              obtain ⟨q1, q2, q3, q4, _⟩ := sym_rot HW.out hb HS1.out HS2.out HA.out hr
              exact ⟨q1, q2, q3, q4⟩
            by_cases hl : a < i ∧ i < mid
            · have hlz : (a : Int) < (i : Int) ∧ (i : Int) < (mid : Int) := by omega
              obtain ⟨hl1, hl2⟩ := hlz
              have hcl := IH.out a i mid d wr (by omega) (by omega) S3.out hl.1 hl.2 (by omega) Q1.out Q2.out
              rw [hz1] at hcl
              have hcl' := Lib.hid hcl
              clear hcl
              go_upto_region 43 with (first | (go_at_call 81; refine hcl'.out.mono ?_; rintro e' w2 ⟨rfl, d2, S4, P12, Q12⟩; have S4' : Aside _ := S4; have P12' : Aside _ := P12; have Q12' : Aside _ := Q12; clear S4 P12 Q12))
              have hz2 : d2.size = d.size := by have := P12'.out.1; omega
              by_cases hr : mid < e ∧ e < b
              · have hrz : (mid : Int) < (e : Int) ∧ (e : Int) < (b : Int) := by omega
                obtain ⟨hr1, hr2⟩ := hrz
                have hq3 : SortedIn (ltOf cf) mid e d2 := fun p q hp hpq hq => by rw [permIn_at P12'.out p (.inr hp), permIn_at P12'.out q (.inr (by omega))]; exact Q3.out p q hp hpq hq
                have hq4 : SortedIn (ltOf cf) e b d2 := fun p q hp hpq hq => by rw [permIn_at P12'.out p (.inr (by omega)), permIn_at P12'.out q (.inr (by omega))]; exact Q4.out p q hp hpq hq
                have hcr := IH.out mid e b d2 w2 (by omega) (by omega) S4'.out hr.1 hr.2 (by omega) hq3 hq4
                rw [hz2] at hcr
                have hcr' := Lib.hid hcr
                clear hcr hq3 hq4
                go_wp2_with (first | (go_at_call 81; refine hcr'.out.mono ?_; rintro e' w3 ⟨rfl, d3, S5, P23, Q23⟩))
                go_end0
                obtain ⟨f1, f2⟩ := KEY.out _ HR1.out.1.1 HR1.out d2 d3 P12'.out P23 ⟨fun _ => Q12'.out, fun h => absurd hl h⟩ ⟨fun _ => Q23, fun h => absurd hr h⟩
                exact ⟨rfl, d3, S5, f1, f2⟩
              · have hrz : ((mid : Int) < (e : Int) ∧ ¬(e : Int) < (b : Int)) ∨ ¬(mid : Int) < (e : Int) := by omega
                have fin : ∃ d', SWK enc k w0 blk off d' w2 ∧ PermIn a b d d' ∧ SortedIn (ltOf cf) a b d' := by
                  obtain ⟨f1, f2⟩ := KEY.out _ HR1.out.1.1 HR1.out d2 d2 P12'.out (permIn_refl _ _ _) ⟨fun _ => Q12'.out, fun h => absurd hl h⟩ ⟨fun h => absurd h hr, fun _ => rfl⟩
                  exact ⟨d2, S4'.out, f1, f2⟩
                have FIN : Aside _ := fin
                clear fin
                rcases hrz with ⟨hr1, hr2⟩ | hr1
                · go_wp2_with fail
                  go_end0
                  exact ⟨rfl, FIN.out⟩
                · go_wp2_with fail
                  go_end0
                  exact ⟨rfl, FIN.out⟩
            · have hlz : ((a : Int) < (i : Int) ∧ ¬(i : Int) < (mid : Int)) ∨ ¬(a : Int) < (i : Int) := by omega
              have P12 : PermIn a mid d d := permIn_refl _ _ _
              rcases hlz with ⟨hl1, hl2⟩ | hl1
              · go_upto_region 43 with fail
                have hz2 : d.size = d.size := by have := P12.1; omega
                by_cases hr : mid < e ∧ e < b
                · have hrz : (mid : Int) < (e : Int) ∧ (e : Int) < (b : Int) := by omega
                  obtain ⟨hr1, hr2⟩ := hrz
                  have hq3 : SortedIn (ltOf cf) mid e d := fun p q hp hpq hq => by rw [permIn_at P12 p (.inr hp), permIn_at P12 q (.inr (by omega))]; exact Q3.out p q hp hpq hq
                  have hq4 : SortedIn (ltOf cf) e b d := fun p q hp hpq hq => by rw [permIn_at P12 p (.inr (by omega)), permIn_at P12 q (.inr (by omega))]; exact Q4.out p q hp hpq hq
                  have hcr := IH.out mid e b d wr (by omega) (by omega) S3.out hr.1 hr.2 (by omega) hq3 hq4
                  rw [hz2] at hcr
                  have hcr' := Lib.hid hcr
                  clear hcr hq3 hq4
                  go_wp2_with (first | (go_at_call 81; refine hcr'.out.mono ?_; rintro e' w3 ⟨rfl, d3, S5, P23, Q23⟩))
                  go_end0
                  obtain ⟨f1, f2⟩ := KEY.out _ HR1.out.1.1 HR1.out d d3 P12 P23 ⟨fun h => absurd h hl, fun _ => rfl⟩ ⟨fun _ => Q23, fun h => absurd hr h⟩
                  exact ⟨rfl, d3, S5, f1, f2⟩
                · have hrz : ((mid : Int) < (e : Int) ∧ ¬(e : Int) < (b : Int)) ∨ ¬(mid : Int) < (e : Int) := by omega
                  have fin : ∃ d', SWK enc k w0 blk off d' wr ∧ PermIn a b d d' ∧ SortedIn (ltOf cf) a b d' := by
                    obtain ⟨f1, f2⟩ := KEY.out _ HR1.out.1.1 HR1.out d d P12 (permIn_refl _ _ _) ⟨fun h => absurd h hl, fun _ => rfl⟩ ⟨fun h => absurd h hr, fun _ => rfl⟩
                    exact ⟨d, S3.out, f1, f2⟩
                  have FIN : Aside _ := fin
                  clear fin
                  rcases hrz with ⟨hr1, hr2⟩ | hr1
                  · go_wp2_with fail
                    go_end0
                    exact ⟨rfl, FIN.out⟩
                  · go_wp2_with fail
                    go_end0
                    exact ⟨rfl, FIN.out⟩
              · go_upto_region 43 with fail
                have hz2 : d.size = d.size := by have := P12.1; omega
                by_cases hr : mid < e ∧ e < b
                · have hrz : (mid : Int) < (e : Int) ∧ (e : Int) < (b : Int) := by omega
                  obtain ⟨hr1, hr2⟩ := hrz
                  have hq3 : SortedIn (ltOf cf) mid e d := fun p q hp hpq hq => by rw [permIn_at P12 p (.inr hp), permIn_at P12 q (.inr (by omega))]; exact Q3.out p q hp hpq hq
                  have hq4 : SortedIn (ltOf cf) e b d := fun p q hp hpq hq => by rw [permIn_at P12 p (.inr (by omega)), permIn_at P12 q (.inr (by omega))]; exact Q4.out p q hp hpq hq
                  have hcr := IH.out mid e b d wr (by omega) (by omega) S3.out hr.1 hr.2 (by omega) hq3 hq4
                  rw [hz2] at hcr
                  have hcr' := Lib.hid hcr
                  clear hcr hq3 hq4
                  go_wp2_with (first | (go_at_call 81; refine hcr'.out.mono ?_; rintro e' w3 ⟨rfl, d3, S5, P23, Q23⟩))
                  go_end0
                  obtain ⟨f1, f2⟩ := KEY.out _ HR1.out.1.1 HR1.out d d3 P12 P23 ⟨fun h => absurd h hl, fun _ => rfl⟩ ⟨fun _ => Q23, fun h => absurd hr h⟩
                  exact ⟨rfl, d3, S5, f1, f2⟩
                · have hrz : ((mid : Int) < (e : Int) ∧ ¬(e : Int) < (b : Int)) ∨ ¬(mid : Int) < (e : Int) := by omega
                  have fin : ∃ d', SWK enc k w0 blk off d' wr ∧ PermIn a b d d' ∧ SortedIn (ltOf cf) a b d' := by
                    obtain ⟨f1, f2⟩ := KEY.out _ HR1.out.1.1 HR1.out d d P12 (permIn_refl _ _ _) ⟨fun h => absurd h hl, fun _ => rfl⟩ ⟨fun h => absurd h hr, fun _ => rfl⟩
                    exact ⟨d, S3.out, f1, f2⟩
                  have FIN : Aside _ := fin
                  clear fin
                  rcases hrz with ⟨hr1, hr2⟩ | hr1
                  · go_wp2_with fail
                    go_end0
                    exact ⟨rfl, FIN.out⟩
                  · go_wp2_with fail
                    go_end0
                    exact ⟨rfl, FIN.out⟩
          · have HR1 : Aside (Rot d i m e d) := rot_id d i m e him hme (.inr r1)
            have S3 : Aside _ := S1.out
            have R1 : Aside _ := r1
            clear r1 S1
            go_upto_region 41 with fail
            have hz1 : d.size = d.size := HR1.out.1.1
            obtain ⟨Q1, Q2, Q3, Q4⟩ : Aside (SortedIn (ltOf cf) a i d) ∧ Aside (SortedIn (ltOf cf) i mid d) ∧ Aside (SortedIn (ltOf cf) mid e d) ∧ Aside (SortedIn (ltOf cf) e b d) := by
              have hr := HR1.out
              have he := HEE.out
              rw [← he] at hr ⊢
              obtain ⟨q1, q2, q3, q4, _⟩ := sym_rot HW.out hb HS1.out HS2.out HA.out hr
              exact ⟨q1, q2, q3, q4⟩
            by_cases hl : a < i ∧ i < mid
            · have hlz : (a : Int) < (i : Int) ∧ (i : Int) < (mid : Int) := by omega
              obtain ⟨hl1, hl2⟩ := hlz
              have hcl := IH.out a i mid d wr (by omega) (by omega) S3.out hl.1 hl.2 (by omega) Q1.out Q2.out
              rw [hz1] at hcl
              have hcl' := Lib.hid hcl
              clear hcl
              go_upto_region 43 with (first | (go_at_call 81; refine hcl'.out.mono ?_; rintro e' w2 ⟨rfl, d2, S4, P12, Q12⟩; have S4' : Aside _ := S4; have P12' : Aside _ := P12; have Q12' : Aside _ := Q12; clear S4 P12 Q12))
              have hz2 : d2.size = d.size := by have := P12'.out.1; omega
              by_cases hr : mid < e ∧ e < b
              · have hrz : (mid : Int) < (e : Int) ∧ (e : Int) < (b : Int) := by omega
                obtain ⟨hr1, hr2⟩ := hrz
                have hq3 : SortedIn (ltOf cf) mid e d2 := fun p q hp hpq hq => by rw [permIn_at P12'.out p (.inr hp), permIn_at P12'.out q (.inr (by omega))]; exact Q3.out p q hp hpq hq
                have hq4 : SortedIn (ltOf cf) e b d2 := fun p q hp hpq hq => by rw [permIn_at P12'.out p (.inr (by omega)), permIn_at P12'.out q (.inr (by omega))]; exact Q4.out p q hp hpq hq
                have hcr := IH.out mid e b d2 w2 (by omega) (by omega) S4'.out hr.1 hr.2 (by omega) hq3 hq4
                rw [hz2] at hcr
                have hcr' := Lib.hid hcr
                clear hcr hq3 hq4
                go_wp2_with (first | (go_at_call 81; refine hcr'.out.mono ?_; rintro e' w3 ⟨rfl, d3, S5, P23, Q23⟩))
                go_end0
                obtain ⟨f1, f2⟩ := KEY.out _ HR1.out.1.1 HR1.out d2 d3 P12'.out P23 ⟨fun _ => Q12'.out, fun h => absurd hl h⟩ ⟨fun _ => Q23, fun h => absurd hr h⟩
                exact ⟨rfl, d3, S5, f1, f2⟩
              · have hrz : ((mid : Int) < (e : Int) ∧ ¬(e : Int) < (b : Int)) ∨ ¬(mid : Int) < (e : Int) := by omega
                have fin : ∃ d', SWK enc k w0 blk off d' w2 ∧ PermIn a b d d' ∧ SortedIn (ltOf cf) a b d' := by
                  obtain ⟨f1, f2⟩ := KEY.out _ HR1.out.1.1 HR1.out d2 d2 P12'.out (permIn_refl _ _ _) ⟨fun _ => Q12'.out, fun h => absurd hl h⟩ ⟨fun h => absurd h hr, fun _ => rfl⟩
                  exact ⟨d2, S4'.out, f1, f2⟩
                have FIN : Aside _ := fin
                clear fin
                rcases hrz with ⟨hr1, hr2⟩ | hr1
                · go_wp2_with fail
                  go_end0
                  exact ⟨rfl, FIN.out⟩
                · go_wp2_with fail
                  go_end0
                  exact ⟨rfl, FIN.out⟩
            · have hlz : ((a : Int) < (i : Int) ∧ ¬(i : Int) < (mid : Int)) ∨ ¬(a : Int) < (i : Int) := by omega
              have P12 : PermIn a mid d d := permIn_refl _ _ _
              rcases hlz with ⟨hl1, hl2⟩ | hl1
              · go_upto_region 43 with fail
                have hz2 : d.size = d.size := by have := P12.1; omega
                by_cases hr : mid < e ∧ e < b
                · have hrz : (mid : Int) < (e : Int) ∧ (e : Int) < (b : Int) := by omega
                  obtain ⟨hr1, hr2⟩ := hrz
                  have hq3 : SortedIn (ltOf cf) mid e d := fun p q hp hpq hq => by rw [permIn_at P12 p (.inr hp), permIn_at P12 q (.inr (by omega))]; exact Q3.out p q hp hpq hq
                  have hq4 : SortedIn (ltOf cf) e b d := fun p q hp hpq hq => by rw [permIn_at P12 p (.inr (by omega)), permIn_at P12 q (.inr (by omega))]; exact Q4.out p q hp hpq hq
                  have hcr := IH.out mid e b d wr (by omega) (by omega) S3.out hr.1 hr.2 (by omega) hq3 hq4
                  rw [hz2] at hcr
                  have hcr' := Lib.hid hcr
                  clear hcr hq3 hq4
                  go_wp2_with (first | (go_at_call 81; refine hcr'.out.mono ?_; rintro e' w3 ⟨rfl, d3, S5, P23, Q23⟩))
                  go_end0
                  obtain ⟨f1, f2⟩ := KEY.out _ HR1.out.1.1 HR1.out d d3 P12 P23 ⟨fun h => absurd h hl, fun _ => rfl⟩ ⟨fun _ => Q23, fun h => absurd hr h⟩
                  exact ⟨rfl, d3, S5, f1, f2⟩
                · have hrz : ((mid : Int) < (e : Int) ∧ ¬(e : Int) < (b : Int)) ∨ ¬(mid : Int) < (e : Int) := by omega
                  have fin : ∃ d', SWK enc k w0 blk off d' wr ∧ PermIn a b d d' ∧ SortedIn (ltOf cf) a b d' := by
                    obtain ⟨f1, f2⟩ := KEY.out _ HR1.out.1.1 HR1.out d d P12 (permIn_refl _ _ _) ⟨fun h => absurd h hl, fun _ => rfl⟩ ⟨fun h => absurd h hr, fun _ => rfl⟩
                    exact ⟨d, S3.out, f1, f2⟩
                  have FIN : Aside _ := fin
                  clear fin
                  rcases hrz with ⟨hr1, hr2⟩ | hr1
                  · go_wp2_with fail
                    go_end0
                    exact ⟨rfl, FIN.out⟩
                  · go_wp2_with fail
                    go_end0
                    exact ⟨rfl, FIN.out⟩
              · go_upto_region 43 with fail
                have hz2 : d.size = d.size := by have := P12.1; omega
                by_cases hr : mid < e ∧ e < b
                · have hrz : (mid : Int) < (e : Int) ∧ (e : Int) < (b : Int) := by omega
                  obtain ⟨hr1, hr2⟩ := hrz
                  have hq3 : SortedIn (ltOf cf) mid e d := fun p q hp hpq hq => by rw [permIn_at P12 p (.inr hp), permIn_at P12 q (.inr (by omega))]; exact Q3.out p q hp hpq hq
                  have hq4 : SortedIn (ltOf cf) e b d := fun p q hp hpq hq => by rw [permIn_at P12 p (.inr (by omega)), permIn_at P12 q (.inr (by omega))]; exact Q4.out p q hp hpq hq
                  have hcr := IH.out mid e b d wr (by omega) (by omega) S3.out hr.1 hr.2 (by omega) hq3 hq4
                  rw [hz2] at hcr
                  have hcr' := Lib.hid hcr
                  clear hcr hq3 hq4
                  go_wp2_with (first | (go_at_call 81; refine hcr'.out.mono ?_; rintro e' w3 ⟨rfl, d3, S5, P23, Q23⟩))
                  go_end0
                  obtain ⟨f1, f2⟩ := KEY.out _ HR1.out.1.1 HR1.out d d3 P12 P23 ⟨fun h => absurd h hl, fun _ => rfl⟩ ⟨fun _ => Q23, fun h => absurd hr h⟩
                  exact ⟨rfl, d3, S5, f1, f2⟩
                · have hrz : ((mid : Int) < (e : Int) ∧ ¬(e : Int) < (b : Int)) ∨ ¬(mid : Int) < (e : Int) := by omega
                  have fin : ∃ d', SWK enc k w0 blk off d' wr ∧ PermIn a b d d' ∧ SortedIn (ltOf cf) a b d' := by
                    obtain ⟨f1, f2⟩ := KEY.out _ HR1.out.1.1 HR1.out d d P12 (permIn_refl _ _ _) ⟨fun h => absurd h hl, fun _ => rfl⟩ ⟨fun h => absurd h hr, fun _ => rfl⟩
                    exact ⟨d, S3.out, f1, f2⟩
                  have FIN : Aside _ := fin
                  clear fin
                  rcases hrz with ⟨hr1, hr2⟩ | hr1
                  · go_wp2_with fail
                    go_end0
                    exact ⟨rfl, FIN.out⟩
                  · go_wp2_with fail
                    go_end0
                    exact ⟨rfl, FIN.out⟩

end Go.Proofs.YtmleipmilmeclaaDoor
