/- Sorting pairs: the stable sort's blocks, in plain Lean. -/
import Derived.Test.YtmleipmilmeclaaDoorXSi
import Derived.Sort.Walk0
namespace Go.Proofs.YtmleipmilmeclaaDoor
open Go.Sort

theorem sorted_kept {lt : PV → PV → Bool} {a b p q : Nat} {d d' : Array PV} (hp : PermIn p q d d') (h : b ≤ p ∨ q ≤ a) (hs : SortedIn lt a b d) : SortedIn lt a b d' := fun x y hx hxy hy => by
  rw [permIn_at hp x (by omega), permIn_at hp y (by omega)]; exact hs x y hx hxy hy

/-- The blocks that end at a or ahead of it are sorted. -/
def Done (lt : PV → PV → Bool) (bs a : Nat) (d : Array PV) : Prop := ∀ u, u * bs + bs ≤ a → SortedIn lt (u * bs) (u * bs + bs) d
/-- The blocks from a on are sorted. -/
def Runs (lt : PV → PV → Bool) (bs n a : Nat) (d : Array PV) : Prop := ∀ u, a ≤ u * bs → u * bs ≤ n → SortedIn lt (u * bs) (min n (u * bs + bs)) d

theorem mul_lt_gap {u c bs : Nat} (h : u < c) : u * bs + bs ≤ c * bs := by
  have := Nat.mul_le_mul_right bs (show u + 1 ≤ c from h)
  rwa [Nat.add_mul, Nat.one_mul] at this

theorem Done.zero (lt : PV → PV → Bool) {bs : Nat} (hb : 0 < bs) (d : Array PV) : Done lt bs 0 d := fun u h => by omega

theorem Done.step {lt : PV → PV → Bool} {bs c : Nat} {d d' : Array PV} (h : Done lt bs (c * bs) d) (hp : PermIn (c * bs) (c * bs + bs) d d') (hs : SortedIn lt (c * bs) (c * bs + bs) d') : Done lt bs (c * bs + bs) d' := fun u hu => by
  rcases Nat.lt_trichotomy u c with hc | hc | hc
  · have := mul_lt_gap (bs := bs) hc
    exact sorted_kept hp (.inl this) (h u this)
  · rw [hc]; exact hs
  · have := mul_lt_gap (bs := bs) hc
    exact fun x y hx hxy hy => by omega

theorem Runs.of_done {lt : PV → PV → Bool} {bs n c : Nat} {d d' : Array PV} (h : Done lt bs (c * bs) d) (hcn : c * bs ≤ n) (hn : n < c * bs + bs) (hp : PermIn (c * bs) n d d') (hs : SortedIn lt (c * bs) n d') : Runs lt bs n 0 d' := fun u _ hu => by
  rcases Nat.lt_trichotomy u c with hc | hc | hc
  · have := mul_lt_gap (bs := bs) hc
    rw [Nat.min_eq_right (by omega)]
    exact sorted_kept hp (.inl this) (h u this)
  · rw [hc, Nat.min_eq_left (by omega)]; exact hs
  · have := mul_lt_gap (bs := bs) hc
    omega

theorem Runs.kept {lt : PV → PV → Bool} {bs n a b : Nat} {d d' : Array PV} (h : Runs lt bs n a d) (hab : a ≤ b) (hp : PermIn a b d d') : Runs lt bs n b d' := fun u h1 h2 => sorted_kept hp (.inr h1) (h u (by omega) h2)

theorem two_mul_c (c bs : Nat) : (2 * c) * bs = c * (2 * bs) := by rw [Nat.mul_comm 2 c, Nat.mul_assoc]
theorem two_mul_c1 (c bs : Nat) : (2 * c + 1) * bs = c * (2 * bs) + bs := by rw [Nat.add_mul, Nat.one_mul, two_mul_c]

theorem Runs.left {lt : PV → PV → Bool} {bs n c : Nat} {d : Array PV} (h : Runs lt bs n (c * (2 * bs)) d) (hn : c * (2 * bs) ≤ n) : SortedIn lt (c * (2 * bs)) (min n (c * (2 * bs) + bs)) d := by
  have := h (2 * c) (by rw [two_mul_c]; exact Nat.le_refl _) (by rw [two_mul_c]; exact hn)
  rwa [two_mul_c] at this
theorem Runs.right {lt : PV → PV → Bool} {bs n c : Nat} {d : Array PV} (h : Runs lt bs n (c * (2 * bs)) d) (hn : c * (2 * bs) + bs ≤ n) : SortedIn lt (c * (2 * bs) + bs) (min n (c * (2 * bs) + bs + bs)) d := by
  have := h (2 * c + 1) (by rw [two_mul_c1]; omega) (by rw [two_mul_c1]; exact hn)
  rwa [two_mul_c1] at this
theorem Runs.whole {lt : PV → PV → Bool} {bs n : Nat} {d : Array PV} (h : Runs lt bs n 0 d) (hn : n ≤ bs) : SortedIn lt 0 n d := by
  have := h 0 (by omega) (by omega)
  rwa [Nat.zero_mul, Nat.zero_add, Nat.min_eq_left hn] at this

end Go.Proofs.YtmleipmilmeclaaDoor

/- Sorting pairs: the stable sort. -/
namespace Go.Proofs.YtmleipmilmeclaaDoor
open Go.Shelf Go.RowKit Go.Lib Go.Sort
attribute [local go_sem ↓] Go.wp_at_zero Go.wp_at_succ

theorem e42t : ∀ args w, (callFunc 42 args).run Tryd.prog w = .ok (.enter 42 args) w := enters_of Tryd.func42 (by kernel_rfl) rfl

theorem ins_any (hw : SWO (ltOf cmpP)) (blk off cap a b : Nat) (d0 d : Array PV) (w0 w : World) (R : RowK encP 6 w0 blk off d0) (hs : d0.size = d.size) (S : SWK encP 6 w0 blk off d w) (hab : a ≤ b) (hb : b ≤ d.size) (hsz : d.size < 1099511627776) :
    Calls Tryd.prog 80 #[.slice (some ⟨blk, off, none⟩) d.size cap, .int .i64 a, .int .i64 b, fnC] w fun e w' => e = .returned (.tuple #[]) ∧ ∃ d', SWK encP 6 w0 blk off d' w' ∧ PermIn a b d d' ∧ SortedIn (ltOf cmpP) a b d' := by
  have hc := AnyQ.insertionSortCmpFunc insLays 6 sortEnv.aE sortEnv.zE encP encP_len encP_one cmpP 42 #[] blk off cap a b d w e42t (cmpLaysP blk off d.size w) (S.holds R.hblk R.hH hs.symm) (S.lt R.hblk) hab hb (by omega)
  change Calls Tryd.prog 80 _ _ _ at hc
  obtain ⟨p, q⟩ := insertionSort_holds (lt := ltOf cmpP) hw d a b hab hb
  refine hc.mono ?_
  rintro e w' ⟨rfl, n, os, rfl⟩
  exact ⟨rfl, _, S.on R.hblk n _ os p.1, p, q⟩

set_option maxHeartbeats 8000000 in
set_option maxRecDepth 1000000 in
theorem stable_any (hw : SWO (ltOf cmpP)) (blk off cap : Nat) (d : Array PV) (w0 w : World) (R : RowK encP 6 w0 blk off d) (S : SWK encP 6 w0 blk off d w) (hsz : d.size < 1099511627776) :
    Calls Tryd.prog 62 #[.slice (some ⟨blk, off, none⟩) d.size cap, .int .i64 d.size, fnC] w fun e w' => e = .returned (.tuple #[]) ∧ ∃ d', SWK encP 6 w0 blk off d' w' ∧ PermIn 0 d.size d d' ∧ SortedIn (ltOf cmpP) 0 d.size d' := by
  have INS := Lib.hid (fun a b d' w' => ins_any hw blk off cap a b d d' w0 w' R)
  have SYM := Lib.hid (symMerge_any sortEnv blk off cap d w0 (cmpLaysP blk off d.size w0) hw R hsz)
  have S0 : Aside (SWK encP 6 w0 blk off d w) := S
  clear S
  obtain ⟨n, hn⟩ : ∃ n, n = d.size := ⟨_, rfl⟩
  have HN : Aside (n = d.size) := hn
  rw [← hn]
  have hnz : n < 1099511627776 := by omega
  clear hn hsz
  go_enter Tryd.func62, Tryd.ntmps62
  go_wp2_with fail
  go_loopg [7, 8] n (fun kx s s' wr => ∃ (c a : Nat) (dk : Array PV), s = .int .i64 a ∧ s' = .int .i64 ((a : Int) + 20) ∧ a ≤ n ∧ n - a ≤ kx ∧ Aside (c * 20 = a) ∧ Aside (dk.size = n) ∧ Aside (SWK encP 6 w0 blk off dk wr) ∧ Aside (PermIn 0 n d dk) ∧ Aside (Done (ltOf cmpP) 20 (c * 20) dk))
  case atStart => exact ⟨0, 0, d, rfl, rfl, by omega, by omega, rfl, HN.out.symm, S0, permIn_refl _ _ _, Done.zero _ (by omega) _⟩
  case round =>
    clear S0
    obtain ⟨c, a, dk, rfl, rfl, ha, hkx, HCA, Z, S1, P1, D1⟩ := hrel
    by_cases hle : a + 20 ≤ n
    · have hlez : (a : Int) + 20 ≤ (n : Int) := by omega
      have hcl := INS.out a (a + 20) dk wr (by rw [Z.out]; exact HN.out.symm) S1.out (by omega) (by rw [Z.out]; exact hle) (by rw [Z.out]; exact hnz)
      rw [Z.out, show ((a + 20 : Nat) : Int) = (a : Int) + 20 by omega] at hcl
      have hcl' := Lib.hid hcl
      clear hcl
      go_wp2_with (first | (go_at_call 80; refine hcl'.out.mono ?_; rintro e w1 ⟨rfl, d1, S2, P2, Q2⟩; have S2' : Aside _ := S2; have P2' : Aside _ := P2; have Q2' : Aside _ := Q2; clear S2 P2 Q2))
      go_roundg (n - (a + 20))
      case measure => omega
      case rel =>
        have hca := HCA.out
        have hz := Z.out
        have hp := P2'.out
        have hq := Q2'.out
        refine ⟨c + 1, a + 20, d1, by go_num, by go_num, hle, Nat.le_refl _, ?_, ?_, S2', ?_, ?_⟩
        · show _ = _; omega
        · show _ = _; rw [hp.1]; exact hz
        · exact permIn_trans _ _ _ _ _ P1.out (permIn_mono _ _ _ _ _ _ (by omega) hle (by rw [hz]; exact Nat.le_refl _) hp)
        · rw [Nat.add_mul, Nat.one_mul]
          rw [← hca] at hp hq
          exact D1.out.step hp hq
    · have hlez : ¬(a : Int) + 20 ≤ (n : Int) := by omega
      have hcl := INS.out a n dk wr (by rw [Z.out]; exact HN.out.symm) S1.out ha (by rw [Z.out]; exact Nat.le_refl _) (by rw [Z.out]; exact hnz)
      rw [Z.out] at hcl
      have hcl' := Lib.hid hcl
      clear hcl
      go_wp2_with (first | (go_at_call 80; refine hcl'.out.mono ?_; rintro e w1 ⟨rfl, d1, S2, P2, Q2⟩; have S2' : Aside _ := S2; have P2' : Aside _ := P2; have Q2' : Aside _ := Q2; clear S2 P2 Q2))
      have hz1 : Aside (d1.size = n) := by show _ = _; rw [P2'.out.1]; exact Z.out
      have hp1 : Aside (PermIn 0 n d d1) := permIn_trans _ _ _ _ _ P1.out (permIn_mono _ _ _ _ _ _ (by omega) (Nat.le_refl _) (by rw [Z.out]; exact Nat.le_refl _) P2'.out)
      have hr1 : Aside (Runs (ltOf cmpP) 20 n 0 d1) := by
        have hp := P2'.out
        have hq := Q2'.out
        have hca := HCA.out
        rw [← hca] at hp hq
        exact Runs.of_done D1.out (by omega) (by omega) hp hq
      clear P2' Q2' D1 P1 S1 hcl'
      go_loopg [6] n (fun kx s wr => ∃ (bs : Nat) (dk : Array PV), s = .int .i64 bs ∧ 1 ≤ bs ∧ bs ≤ 2 * n + 20 ∧ n - bs ≤ kx ∧ Aside (dk.size = n) ∧ Aside (SWK encP 6 w0 blk off dk wr) ∧ Aside (PermIn 0 n d dk) ∧ Aside (Runs (ltOf cmpP) bs n 0 dk))
      case atStart => exact ⟨20, d1, rfl, by omega, by omega, by omega, hz1, S2', hp1, hr1⟩
      case round =>
        clear hz1 hp1 hr1 S2' Z HCA
        obtain ⟨bs, dk2, rfl, hb1, hb2, hkx2, Z, S1, P1, R1⟩ := hrel
        by_cases hlt : bs < n
        · have hltz : (bs : Int) < (n : Int) := by omega
          go_wp2_with fail
          go_loopg [7, 8] n (fun kx s s' wr => ∃ (c a : Nat) (dk : Array PV), s = .int .i64 a ∧ s' = .int .i64 ((a : Int) + 2 * (bs : Int)) ∧ a ≤ n ∧ n - a ≤ kx ∧ Aside (c * (2 * bs) = a) ∧ Aside (dk.size = n) ∧ Aside (SWK encP 6 w0 blk off dk wr) ∧ Aside (PermIn 0 n d dk) ∧ Aside (Done (ltOf cmpP) (2 * bs) (c * (2 * bs)) dk) ∧ Aside (Runs (ltOf cmpP) bs n (c * (2 * bs)) dk))
          case atStart => exact ⟨0, 0, dk2, rfl, by congr 1; omega, by omega, by omega, by show _ = _; omega, Z, S1, P1, by rw [Nat.zero_mul]; exact Done.zero _ (by omega) _, by rw [Nat.zero_mul]; exact R1⟩
          case round =>
            clear Z S1 P1 R1
            obtain ⟨c, a, dk3, rfl, rfl, ha, hkx3, HCA, Z, S1, P1, D1, R1⟩ := hrel
            have hca := HCA.out
            have rl := R1.out.left (by omega)
            by_cases hle : a + 2 * bs ≤ n
            · have hlez : (a : Int) + 2 * (bs : Int) ≤ (n : Int) := by omega
              have rr := R1.out.right (by omega)
              rw [hca] at rl rr
              rw [Nat.min_eq_right (by omega)] at rl rr
              have hcl := SYM.out (2 * bs) a (a + bs) (a + 2 * bs) dk3 wr (by omega) (by rw [Z.out]; exact HN.out.symm) S1.out (by omega) (by omega) (by rw [Z.out]; exact hle) rl (by rw [show a + 2 * bs = a + bs + bs by omega]; exact rr)
              rw [Z.out, show ((a + bs : Nat) : Int) = (a : Int) + (bs : Int) by omega, show ((a + 2 * bs : Nat) : Int) = (a : Int) + 2 * (bs : Int) by omega] at hcl
              have hcl' := Lib.hid hcl
              clear hcl rl rr hca
              go_wp2_with (first | (go_at_call 81; refine hcl'.out.mono ?_; rintro e w1 ⟨rfl, d4, S2, P2, Q2⟩; have S2' : Aside _ := S2; have P2' : Aside _ := P2; have Q2' : Aside _ := Q2; clear S2 P2 Q2))
              go_roundg (n - (a + 2 * bs))
              case measure => omega
              case rel =>
                have hca := HCA.out
                have hz := Z.out
                have hp := P2'.out
                have hq := Q2'.out
                refine ⟨c + 1, a + 2 * bs, d4, by first | rfl | go_num | (congr 1; omega), by first | rfl | go_num | (congr 1; omega), hle, Nat.le_refl _, ?_, ?_, S2', ?_, ?_, ?_⟩
                · show _ = _; rw [Nat.add_mul, Nat.one_mul, hca]
                · show _ = _; rw [hp.1]; exact hz
                · exact permIn_trans _ _ _ _ _ P1.out (permIn_mono _ _ _ _ _ _ (by omega) hle (by rw [hz]; exact Nat.le_refl _) hp)
                · rw [Nat.add_mul, Nat.one_mul]
                  rw [← hca] at hp hq
                  exact D1.out.step hp hq
                · rw [Nat.add_mul, Nat.one_mul]
                  rw [← hca] at hp
                  exact R1.out.kept (by omega) hp
            · have hlez : ¬(a : Int) + 2 * (bs : Int) ≤ (n : Int) := by omega
              by_cases hm : a + bs < n
              · have hmz : (a : Int) + (bs : Int) < (n : Int) := by omega
                have rr := R1.out.right (by omega)
                rw [hca] at rl rr
                rw [Nat.min_eq_right (by omega)] at rl
                rw [Nat.min_eq_left (by omega)] at rr
                have hcl := SYM.out n a (a + bs) n dk3 wr (by omega) (by rw [Z.out]; exact HN.out.symm) S1.out (by omega) hm (by rw [Z.out]; exact Nat.le_refl _) rl rr
                rw [Z.out, show ((a + bs : Nat) : Int) = (a : Int) + (bs : Int) by omega] at hcl
                have hcl' := Lib.hid hcl
                clear hcl rl rr hca
                go_wp2_with (first | (go_at_call 81; refine hcl'.out.mono ?_; rintro e w1 ⟨rfl, d4, S2, P2, Q2⟩; have S2' : Aside _ := S2; have P2' : Aside _ := P2; have Q2' : Aside _ := Q2; clear S2 P2 Q2))
                go_roundg (n - 2 * bs)
                case measure => omega
                case rel =>
                  have hca := HCA.out
                  have hz := Z.out
                  have hp := P2'.out
                  have hq := Q2'.out
                  refine ⟨2 * bs, d4, by congr 1; omega, by omega, by omega, Nat.le_refl _, ?_, S2', ?_, ?_⟩
                  · show _ = _; rw [hp.1]; exact hz
                  · exact permIn_trans _ _ _ _ _ P1.out (permIn_mono _ _ _ _ _ _ (by omega) (Nat.le_refl _) (by rw [hz]; exact Nat.le_refl _) hp)
                  · rw [← hca] at hp hq
                    exact Runs.of_done D1.out (by omega) (by omega) hp hq
              · have hmz : ¬(a : Int) + (bs : Int) < (n : Int) := by omega
                rw [hca, Nat.min_eq_left (by omega)] at rl
                have RL : Aside _ := rl
                clear rl hca
                go_wp2_with fail
                go_roundg (n - 2 * bs)
                case measure => omega
                case rel =>
                  have hca := HCA.out
                  refine ⟨2 * bs, dk3, by congr 1; omega, by omega, by omega, Nat.le_refl _, Z, S1, P1, ?_⟩
                  have hq := RL.out
                  rw [← hca] at hq
                  exact Runs.of_done D1.out (by omega) (by omega) (permIn_refl _ _ _) hq
        · have hltz : ¬(bs : Int) < (n : Int) := by omega
          go_wp2_with fail
          go_end0
          exact ⟨rfl, dk2, S1.out, P1.out, R1.out.whole (by omega)⟩

end Go.Proofs.YtmleipmilmeclaaDoor

/- Sorting pairs: the order; SortStableFunc. -/
namespace Go.Proofs.YtmleipmilmeclaaDoor
open Go.Shelf Go.RowKit Go.Lib Go.Sort
attribute [local go_sem ↓] Go.wp_at_zero Go.wp_at_succ

theorem ltP (x y : PV) : ltOf cmpP x y = ltStr x.key.toList y.key.toList := by
  unfold ltOf cmpP cmpS ltStr
  rw [bytesLess_eq]
  by_cases h : x.key.toList < y.key.toList
  · simp [h]
  · by_cases h2 : x.key.toList = y.key.toList
    · rw [h2] at h ⊢; simp [h]
    · simp [h, h2]

theorem swoP : SWO (ltOf cmpP) where
  irrefl x := by rw [ltP]; exact swo_ltStr.irrefl _
  trans x y z h1 h2 := by rw [ltP] at *; exact swo_ltStr.trans _ _ _ h1 h2
  ntrans x y z h1 h2 := by rw [ltP] at *; exact swo_ltStr.ntrans _ _ _ h1 h2

set_option maxHeartbeats 1000000 in
theorem sortStable_any (blk off cap : Nat) (d : Array PV) (w0 : World) (R : RowK encP 6 w0 blk off d) (hsz : d.size < 1099511627776) :
    Calls Tryd.prog 41 #[.slice (some ⟨blk, off, none⟩) d.size cap, fnC] w0 fun e w' => e = .returned (.tuple #[]) ∧ ∃ d', SWK encP 6 w0 blk off d' w' ∧ PermIn 0 d.size d d' ∧ SortedIn (ltOf cmpP) 0 d.size d' := by
  have hc := Lib.hid (stable_any swoP blk off cap d w0 w0 R (SWK.start R.hH) hsz)
  clear R
  go_enter Tryd.func41, Tryd.ntmps41
  go_wp2_with (first | (go_at_call 62; refine hc.out.mono ?_; rintro e w1 ⟨rfl, d1, S2, P2, Q2⟩))
  go_end0
  exact ⟨rfl, d1, S2, P2, Q2⟩

end Go.Proofs.YtmleipmilmeclaaDoor
