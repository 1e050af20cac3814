/- Walks: the reference's Starts and Begin. -/
import Derived.Test.YtmleipmilmeclaaDoorXVa
namespace Go.Proofs.YtmleipmilmeclaaDoor
open Go.RowKit
attribute [local go_sem ↓] Go.wp_at_zero Go.wp_at_succ

set_option maxHeartbeats 1000000 in
theorem starts_any (b o cb g og cg : Nat) (L M : List Int) (n m : Nat) (hn : L.length = n) (hm : M.length = m) (hn2 : n < 4611686018427387904) (w : World) (hb : Bs w b o L) (hg : Bs w g og M) (hlb : b < w.heap.size) (hlg : g < w.heap.size) (r : Bool) (hr : M.isPrefixOf L = r) :
    Calls Tryd.prog 79 #[.slice (some ⟨b, o, none⟩) n cb, .slice (some ⟨g, og, none⟩) m cg] w fun e w' => e = .returned (.bool r) ∧ Below w.heap.size w w' := by
  have hr' := Lib.hid hr
  clear hr
  by_cases hlen : n < m
  · have hz : (n : Int) < (m : Int) := by omega
    have e := hr'.out
    have e2 : r = false := by
      rw [← e, Bool.eq_false_iff]
      intro h
      have := (List.isPrefixOf_iff_prefix.1 h).length_le
      omega
    subst e2
    go_enter Tryd.func79, Tryd.ntmps79
    go_wp2
    go_ret
    exact ⟨rfl, by go_grown⟩
  · have hz : (m : Int) ≤ (n : Int) := by omega
    go_enter Tryd.func79, Tryd.ntmps79
    go_wp2
    go_loopw [5] (fun i wr => ∃ k : Nat, i = .int .i64 (k : Int) ∧ k ≤ m ∧ Below w.heap.size w wr ∧ M.isPrefixOf L = (M.drop k).isPrefixOf (L.drop k)) (fun i _ => m - (intOf i).toNat)
    case atStart => exact ⟨0, rfl, by omega, Below.refl _ _, rfl⟩
    case round =>
      obtain ⟨k, rfl, hk, hbw, hp⟩ := hrel
      have z := hbw.size
      have hp' := Lib.hid hp
      clear hp
      by_cases hlt : k < m
      · have hkM : k < M.length := by omega
        have hkL : k < L.length := by omega
        have a0 := hb.below hbw hlb k hkL
        have a1 := hg.below hbw hlg k hkM
        have kn : (k : Int) < (n : Int) := by omega
        have km : (k : Int) < (m : Int) := by omega
        have hd1 := Lib.hid (show M.drop k = M[k] :: M.drop (k + 1) from List.drop_eq_getElem_cons hkM)
        have hd2 := Lib.hid (show L.drop k = L[k] :: L.drop (k + 1) from List.drop_eq_getElem_cons hkL)
        generalize M[k] = x at *
        generalize L[k] = y at *
        go_wp2
        go_quiet (fail)
        all_goals go_wp2
        · rename_i hne
          have hxy : x ≠ y := by intro h; subst h; simp at hne
          have hne' : (x == y) = false := by simp [hxy]
          have e := hr'.out
          rw [hp'.out, hd1.out, hd2.out, List.isPrefixOf_cons_cons, hne', Bool.false_and] at e
          subst e
          go_ret
          exact ⟨rfl, below_drewN hbw _⟩
        · rename_i hne
          have hxy : y = x := by simpa using hne
          have hne' : (x == y) = true := by simp [hxy]
          refine ⟨⟨k + 1, by simp, by omega, below_drewN hbw _, ?_⟩, by simp [intOf]; omega⟩
          rw [hp'.out, hd1.out, hd2.out, List.isPrefixOf_cons_cons, hne', Bool.true_and]
      · have hkn : k = m := by omega
        subst hkn
        have e := hr'.out
        rw [hp'.out, List.drop_of_length_le (by omega)] at e
        simp only [List.isPrefixOf] at e
        subst e
        go_wp2
        go_ret
        exact ⟨rfl, hbw⟩

theorem foldCp_snoc (p : Int) (L : List Int) (c : Int) : foldCp p (L ++ [c]) = foldCp p L * 64 + c % 64 := by
  induction L generalizing p with
  | nil => rfl
  | cons x L ih => exact ih _

structure Sm (q : Int) (k : Nat) : Prop where
  s0 : 0 ≤ q
  s1 : k = 0 → q < 256
  s2 : k = 1 → q < 16384
  s3 : k = 2 → q < 1048576
  s4 : k = 3 → q < 67108864
  s5 : q < 67108864

set_option maxRecDepth 100000 in
set_option maxHeartbeats 1000000 in
theorem begin_any (b o cap : Nat) (L : List Int) (n : Nat) (hn : L.length = n) (h0 : 0 < n) (hn2 : n < 4611686018427387904) (hL : ∀ y ∈ L, Byte y) (w : World) (hb : Bs w b o L) (hlb : b < w.heap.size) (r : Int × Int) (hr : beginF L 4 1 = r) :
    Calls Tryd.prog 61 #[.slice (some ⟨b, o, none⟩) n cap] w fun e w' => e = .returned (.tuple #[.int .i64 r.1, .int .i64 r.2]) ∧ Below w.heap.size w w' := by
  have hr' := Lib.hid hr
  clear hr
  obtain ⟨x, hx⟩ : ∃ x, x = L[0] := ⟨_, rfl⟩
  have hxL : L = x :: L.drop 1 := by rw [hx]; exact (List.drop_eq_getElem_cons (by omega) : L.drop 0 = _)
  have hbx : Byte x := by rw [hx]; exact hL _ (List.getElem_mem _)
  have c0 := hb 0 (by omega)
  rw [← hx, Nat.add_zero] at c0
  clear hx
  have hxL' := Lib.hid hxL
  clear hxL
  unfold Byte at hbx
  have hn0 : (0 : Int) < n := by omega
  go_enter Tryd.func61, Tryd.ntmps61
  go_wp2
  go_loopw [4] (fun i wr => ∃ m : Nat, i = .int .i64 (m : Int) ∧ 1 ≤ m ∧ m ≤ 5 ∧ Below w.heap.size w wr ∧ beginF L 4 1 = beginF L (5 - m) m) (fun i _ => 6 - (intOf i).toNat)
  case atStart => exact ⟨1, rfl, by omega, by omega, Below.refl _ _, rfl⟩
  case round =>
    obtain ⟨m, rfl, hm1, hm5, hbw, hp⟩ := hrel
    have z := hbw.size
    have hp' := Lib.hid hp
    clear hp
    have d0 := (hbw.cell (p := ⟨b, o, none⟩) hlb).trans c0
    by_cases hlt : m ≤ 4 ∧ m ≤ n
    · have hzn : (m : Int) ≤ n := by omega
      have hmc : m = 1 ∨ m = 2 ∨ m = 3 ∨ m = 4 := by omega
      rcases hmc with rfl | rfl | rfl | rfl
      · -- 1
        have hcp : cpOf L 1 = foldCp x ((L.drop 1).take 0) := (congrArg (fun l => cpOf l 1) hxL'.out).trans (by simp [cpOf])
        have hst := Lib.hid (show beginF L (5 - 1) 1 = if hitCp L 1 then (cpOf L 1, (1 : Int)) else beginF L (5 - 2) 2 from by
          show (if 1 ≤ 4 ∧ 1 ≤ L.length then _ else _) = _
          rw [if_pos ⟨by omega, by omega⟩]; rfl)
        have hcp' := Lib.hid hcp
        have lb : b < wr.heap.size := by omega
        have u1 : wrap64 x = x := w64 (by omega) (by omega)
        clear hcp
        go_wp2
        go_loopw [6, 5] (fun i c wr => ∃ k : Nat, i = .int .i64 ((k + 1 : Nat) : Int) ∧ k ≤ 0 ∧ c = .int .i64 (foldCp x ((L.drop 1).take k)) ∧ Sm (foldCp x ((L.drop 1).take k)) k ∧ Below w.heap.size w wr) (fun i _ _ => 6 - (intOf i).toNat)
        case atStart => exact ⟨0, rfl, by omega, by simp [foldCp], by simp [foldCp]; exact ⟨by omega, by omega, by omega, by omega, by omega, by omega⟩, hbw⟩
        case round =>
          obtain ⟨k, rfl, hk, rfl, hsm, hbq⟩ := hrel
          have zq := hbq.size
          by_cases hkm : k < 0
          · exact absurd hkm (by omega)
          · obtain rfl : k = 0 := by omega
            rw [← hcp'.out] at hsm ⊢
            have hs2 := Lib.hid (is_any (cpOf L 1))
            have hbcp := Lib.hid (fun h0 h1 w => bytes_any (cpOf L 1) h0 h1 w)
            have hhit := Lib.hid (show hitCp L 1 = (isCp (cpOf L 1) && decide ((bytesCp (cpOf L 1)).length = 1) && (bytesCp (cpOf L 1)).isPrefixOf L) from rfl)
            have hst2 := Lib.hid (fun (g og cg : Nat) (M : List Int) (W : World) (hbW : Bs W b o L) (hgW : Bs W g og M) (hlW : b < W.heap.size) (hlg : g < W.heap.size) => starts_any b o cap g og cg L M n M.length hn rfl hn2 W hbW hgW hlW hlg _ rfl)
            have h0q := hsm.s0
            have hqb : 1 = 1 ∨ 1 = 2 ∨ 1 = 3 ∨ 1 = 4 := by omega
            generalize cpOf L 1 = q at *
            clear hsm hcp'
            cases hi : isCp q
            · rw [hi] at hs2
              have e := hst.out
              rw [hhit.out, hi] at e
              simp only [Bool.false_and, Bool.false_eq_true, if_false] at e
              have e' := Lib.hid ((rfl : beginF L 4 1 = beginF L (5 - 1) 1).trans e)
              clear e hi
              go_wp2_with (go_at_call 77; refine (hs2.out _).mono ?_; rintro e w1 ⟨rfl, hb1⟩)
              exact ⟨⟨2, rfl, by omega, by omega, Below.after hbq hb1 zq, e'.out⟩, by simp [intOf]⟩
            · have h1q : q ≤ 1114111 := by
                simp only [isCp, decide_eq_true_eq] at hi
                exact hi.2.1
              have hbcp2 := Lib.hid (hbcp.out h0q h1q)
              unfold BytesPost at hbcp2
              rw [hi] at hs2 hhit
              simp only [Bool.true_and] at hhit
              clear hi hbcp
              generalize bytesCp q = M at *
              have hst3 := Lib.hid (fun (g : Nat) cg (W : World) (hbW : Bs W b o L) => hst2.out g 0 cg M W hbW)
              clear hst2
              generalize hln : M.length = ln at *
              have hln' := Lib.hid hln
              clear hln
              by_cases hl : ln = 1
              · subst hl
                simp only [decide_true, Bool.true_and] at hhit
                generalize M.isPrefixOf L = pr at *
                cases pr
                · have e := hst.out
                  rw [hhit.out] at e
                  simp only [Bool.false_eq_true, if_false] at e
                  have e' := Lib.hid ((rfl : beginF L 4 1 = beginF L (5 - 1) 1).trans e)
                  clear e
                  go_wp2_with (first
                    | (go_at_call 77; refine (hs2.out _).mono ?_; rintro e w1 ⟨rfl, hb1⟩; have z1 := hb1.size)
                    | (go_at_call 78; refine (hbcp2.out _).mono ?_; rintro e w2 ⟨g, cg, rfl, hcg, hgs, hgl, hb2⟩; have z2 := hb2.size)
                    | (go_at_call 79; refine (hst3.out _ _ _ (hb.below (Below.after (Below.after hbq hb1 zq) hb2 (by omega)) hlb) hgs (by omega) hgl).mono ?_; rintro e w3 ⟨rfl, hb3⟩))
                  exact ⟨⟨2, rfl, by omega, by omega, Below.after (Below.after (Below.after hbq hb1 zq) hb2 (by omega)) hb3 (by omega), e'.out⟩, by simp [intOf]⟩
                · have e := hst.out
                  rw [hhit.out] at e
                  simp only [if_true] at e
                  have e2 := (hr'.out.symm.trans ((rfl : beginF L 4 1 = beginF L (5 - 1) 1).trans e))
                  subst e2
                  go_wp2_with (first
                    | (go_at_call 77; refine (hs2.out _).mono ?_; rintro e w1 ⟨rfl, hb1⟩; have z1 := hb1.size)
                    | (go_at_call 78; refine (hbcp2.out _).mono ?_; rintro e w2 ⟨g, cg, rfl, hcg, hgs, hgl, hb2⟩; have z2 := hb2.size)
                    | (go_at_call 79; refine (hst3.out _ _ _ (hb.below (Below.after (Below.after hbq hb1 zq) hb2 (by omega)) hlb) hgs (by omega) hgl).mono ?_; rintro e w3 ⟨rfl, hb3⟩))
                  exact bodyPost_ret (v := .tuple #[.int .i64 q, .int .i64 1]) (by simp [results, Tryd.results61, go_sem]) rfl ⟨rfl, Below.after (Below.after (Below.after hbq hb1 zq) hb2 (by omega)) hb3 (by omega)⟩
              · have e := hst.out
                rw [hhit.out] at e
                simp only [hl, decide_false, Bool.false_and, Bool.false_eq_true, if_false] at e
                have e' := Lib.hid ((rfl : beginF L 4 1 = beginF L (5 - 1) 1).trans e)
                clear e hst3
                have hl' : ¬((ln : Int) = 1) := by omega
                go_wp2_with (first
                  | (go_at_call 77; refine (hs2.out _).mono ?_; rintro e w1 ⟨rfl, hb1⟩; have z1 := hb1.size)
                  | (go_at_call 78; refine (hbcp2.out _).mono ?_; rintro e w2 ⟨g, cg, rfl, hcg, hgs, hgl, hb2⟩; have z2 := hb2.size))
                exact ⟨⟨2, rfl, by omega, by omega, Below.after (Below.after hbq hb1 zq) hb2 (by omega), e'.out⟩, by simp [intOf]⟩
      · -- 2
        have hcp : cpOf L 2 = foldCp (x % 32) ((L.drop 1).take 1) := (congrArg (fun l => cpOf l 2) hxL'.out).trans (by simp [cpOf, modB])
        have hst := Lib.hid (show beginF L (5 - 2) 2 = if hitCp L 2 then (cpOf L 2, (2 : Int)) else beginF L (5 - 3) 3 from by
          show (if 2 ≤ 4 ∧ 2 ≤ L.length then _ else _) = _
          rw [if_pos ⟨by omega, by omega⟩]; rfl)
        have hcp' := Lib.hid hcp
        have lb : b < wr.heap.size := by omega
        have u1 : wrap64 x = x := w64 (by omega) (by omega)
        clear hcp
        have u2 : x.tmod 32 = x % 32 := tmodp hbx.1
        go_upto_region 6 with fail
        go_cut [5] (fun c wx => c = .int .i64 (x % 32) ∧ Below w.heap.size w wx)
        case first =>
          go_region
          all_goals (go_wp2_with fail; go_meet)
          all_goals (refine ⟨rfl, ?_⟩)
          all_goals repeat' (first | (with_reducible exact hbw) | (with_reducible refine Below.alloc ?_ (by go_size) _) | (with_reducible refine Below.drew ?_))
        case rest =>
          obtain ⟨rfl, hbx2⟩ := hcut
          go_wp2
          go_loopw [6, 5] (fun i c wr => ∃ k : Nat, i = .int .i64 ((k + 1 : Nat) : Int) ∧ k ≤ 1 ∧ c = .int .i64 (foldCp (x % 32) ((L.drop 1).take k)) ∧ Sm (foldCp (x % 32) ((L.drop 1).take k)) k ∧ Below w.heap.size w wr) (fun i _ _ => 6 - (intOf i).toNat)
          case atStart => exact ⟨0, rfl, by omega, by simp [foldCp], by simp [foldCp]; exact ⟨by omega, by omega, by omega, by omega, by omega, by omega⟩, hbx2⟩
          case round =>
            obtain ⟨k, rfl, hk, rfl, hsm, hbq⟩ := hrel
            have zq := hbq.size
            by_cases hkm : k < 1
            · have hkl : k < (L.drop 1).length := by simp; omega
              have e1 : (L.drop 1).take (k + 1) = (L.drop 1).take k ++ [(L.drop 1)[k]] := List.take_succ_eq_append_getElem hkl
              have hf := foldCp_snoc (x % 32) ((L.drop 1).take k) (L.drop 1)[k]
              rw [← e1] at hf
              have hy := hL _ (List.mem_of_mem_drop (List.getElem_mem hkl))
              have dy := hb.below hbq hlb (k + 1) (by omega)
              have e3 : L[k + 1]'(by omega) = (L.drop 1)[k] := by simp
              rw [e3] at dy
              generalize (L.drop 1)[k] = y at *
              generalize foldCp (x % 32) ((L.drop 1).take k) = q at *
              obtain ⟨q0, q1, q2, q3, q4, q5⟩ := hsm
              unfold Byte at hy
              have t1 : y.tmod 64 = y % 64 := tmodp hy.1
              have t2 : wrap64 (q * 64) = q * 64 := w64 (by omega) (by omega)
              have t3 : wrap64 (q * 64 + y % 64) = q * 64 + y % 64 := w64 (by omega) (by omega)
              have t4 : ((k + 1 : Nat) : Int) < n := by omega
              have t5 : wrap64 y = y := w64 (by omega) (by omega)
              have hf' := Lib.hid hf
              clear e1 hf e3
              go_wp2
              go_roundw
              case rel => exact ⟨k + 1, by simp, by omega, by rw [hf'.out], by rw [hf'.out]; exact ⟨by omega, by omega, by omega, by omega, by omega, by omega⟩, hbq⟩
              case measure => simp [intOf]; omega
            · obtain rfl : k = 1 := by omega
              rw [← hcp'.out] at hsm ⊢
              have hs2 := Lib.hid (is_any (cpOf L 2))
              have hbcp := Lib.hid (fun h0 h1 w => bytes_any (cpOf L 2) h0 h1 w)
              have hhit := Lib.hid (show hitCp L 2 = (isCp (cpOf L 2) && decide ((bytesCp (cpOf L 2)).length = 2) && (bytesCp (cpOf L 2)).isPrefixOf L) from rfl)
              have hst2 := Lib.hid (fun (g og cg : Nat) (M : List Int) (W : World) (hbW : Bs W b o L) (hgW : Bs W g og M) (hlW : b < W.heap.size) (hlg : g < W.heap.size) => starts_any b o cap g og cg L M n M.length hn rfl hn2 W hbW hgW hlW hlg _ rfl)
              have h0q := hsm.s0
              have hqb : 2 = 1 ∨ 2 = 2 ∨ 2 = 3 ∨ 2 = 4 := by omega
              generalize cpOf L 2 = q at *
              clear hsm hcp'
              cases hi : isCp q
              · rw [hi] at hs2
                have e := hst.out
                rw [hhit.out, hi] at e
                simp only [Bool.false_and, Bool.false_eq_true, if_false] at e
                have e' := Lib.hid (hp'.out.trans e)
                clear e hi
                go_wp2_with (go_at_call 77; refine (hs2.out _).mono ?_; rintro e w1 ⟨rfl, hb1⟩)
                exact ⟨⟨3, rfl, by omega, by omega, Below.after hbq hb1 zq, e'.out⟩, by simp [intOf]⟩
              · have h1q : q ≤ 1114111 := by
                  simp only [isCp, decide_eq_true_eq] at hi
                  exact hi.2.1
                have hbcp2 := Lib.hid (hbcp.out h0q h1q)
                unfold BytesPost at hbcp2
                rw [hi] at hs2 hhit
                simp only [Bool.true_and] at hhit
                clear hi hbcp
                generalize bytesCp q = M at *
                have hst3 := Lib.hid (fun (g : Nat) cg (W : World) (hbW : Bs W b o L) => hst2.out g 0 cg M W hbW)
                clear hst2
                generalize hln : M.length = ln at *
                have hln' := Lib.hid hln
                clear hln
                by_cases hl : ln = 2
                · subst hl
                  simp only [decide_true, Bool.true_and] at hhit
                  generalize M.isPrefixOf L = pr at *
                  cases pr
                  · have e := hst.out
                    rw [hhit.out] at e
                    simp only [Bool.false_eq_true, if_false] at e
                    have e' := Lib.hid (hp'.out.trans e)
                    clear e
                    go_wp2_with (first
                      | (go_at_call 77; refine (hs2.out _).mono ?_; rintro e w1 ⟨rfl, hb1⟩; have z1 := hb1.size)
                      | (go_at_call 78; refine (hbcp2.out _).mono ?_; rintro e w2 ⟨g, cg, rfl, hcg, hgs, hgl, hb2⟩; have z2 := hb2.size)
                      | (go_at_call 79; refine (hst3.out _ _ _ (hb.below (Below.after (Below.after hbq hb1 zq) hb2 (by omega)) hlb) hgs (by omega) hgl).mono ?_; rintro e w3 ⟨rfl, hb3⟩))
                    exact ⟨⟨3, rfl, by omega, by omega, Below.after (Below.after (Below.after hbq hb1 zq) hb2 (by omega)) hb3 (by omega), e'.out⟩, by simp [intOf]⟩
                  · have e := hst.out
                    rw [hhit.out] at e
                    simp only [if_true] at e
                    have e2 := (hr'.out.symm.trans (hp'.out.trans e))
                    subst e2
                    go_wp2_with (first
                      | (go_at_call 77; refine (hs2.out _).mono ?_; rintro e w1 ⟨rfl, hb1⟩; have z1 := hb1.size)
                      | (go_at_call 78; refine (hbcp2.out _).mono ?_; rintro e w2 ⟨g, cg, rfl, hcg, hgs, hgl, hb2⟩; have z2 := hb2.size)
                      | (go_at_call 79; refine (hst3.out _ _ _ (hb.below (Below.after (Below.after hbq hb1 zq) hb2 (by omega)) hlb) hgs (by omega) hgl).mono ?_; rintro e w3 ⟨rfl, hb3⟩))
                    exact bodyPost_ret (v := .tuple #[.int .i64 q, .int .i64 2]) (by simp [results, Tryd.results61, go_sem]) rfl ⟨rfl, Below.after (Below.after (Below.after hbq hb1 zq) hb2 (by omega)) hb3 (by omega)⟩
                · have e := hst.out
                  rw [hhit.out] at e
                  simp only [hl, decide_false, Bool.false_and, Bool.false_eq_true, if_false] at e
                  have e' := Lib.hid (hp'.out.trans e)
                  clear e hst3
                  have hl' : ¬((ln : Int) = 2) := by omega
                  go_wp2_with (first
                    | (go_at_call 77; refine (hs2.out _).mono ?_; rintro e w1 ⟨rfl, hb1⟩; have z1 := hb1.size)
                    | (go_at_call 78; refine (hbcp2.out _).mono ?_; rintro e w2 ⟨g, cg, rfl, hcg, hgs, hgl, hb2⟩; have z2 := hb2.size))
                  exact ⟨⟨3, rfl, by omega, by omega, Below.after (Below.after hbq hb1 zq) hb2 (by omega), e'.out⟩, by simp [intOf]⟩
      · -- 3
        have hcp : cpOf L 3 = foldCp (x % 16) ((L.drop 1).take 2) := (congrArg (fun l => cpOf l 3) hxL'.out).trans (by simp [cpOf, modB])
        have hst := Lib.hid (show beginF L (5 - 3) 3 = if hitCp L 3 then (cpOf L 3, (3 : Int)) else beginF L (5 - 4) 4 from by
          show (if 3 ≤ 4 ∧ 3 ≤ L.length then _ else _) = _
          rw [if_pos ⟨by omega, by omega⟩]; rfl)
        have hcp' := Lib.hid hcp
        have lb : b < wr.heap.size := by omega
        have u1 : wrap64 x = x := w64 (by omega) (by omega)
        clear hcp
        have u2 : x.tmod 16 = x % 16 := tmodp hbx.1
        go_upto_region 6 with fail
        go_cut [5] (fun c wx => c = .int .i64 (x % 16) ∧ Below w.heap.size w wx)
        case first =>
          go_region
          all_goals (go_wp2_with fail; go_meet)
          all_goals (refine ⟨rfl, ?_⟩)
          all_goals repeat' (first | (with_reducible exact hbw) | (with_reducible refine Below.alloc ?_ (by go_size) _) | (with_reducible refine Below.drew ?_))
        case rest =>
          obtain ⟨rfl, hbx2⟩ := hcut
          go_wp2
          go_loopw [6, 5] (fun i c wr => ∃ k : Nat, i = .int .i64 ((k + 1 : Nat) : Int) ∧ k ≤ 2 ∧ c = .int .i64 (foldCp (x % 16) ((L.drop 1).take k)) ∧ Sm (foldCp (x % 16) ((L.drop 1).take k)) k ∧ Below w.heap.size w wr) (fun i _ _ => 6 - (intOf i).toNat)
          case atStart => exact ⟨0, rfl, by omega, by simp [foldCp], by simp [foldCp]; exact ⟨by omega, by omega, by omega, by omega, by omega, by omega⟩, hbx2⟩
          case round =>
            obtain ⟨k, rfl, hk, rfl, hsm, hbq⟩ := hrel
            have zq := hbq.size
            by_cases hkm : k < 2
            · have hkl : k < (L.drop 1).length := by simp; omega
              have e1 : (L.drop 1).take (k + 1) = (L.drop 1).take k ++ [(L.drop 1)[k]] := List.take_succ_eq_append_getElem hkl
              have hf := foldCp_snoc (x % 16) ((L.drop 1).take k) (L.drop 1)[k]
              rw [← e1] at hf
              have hy := hL _ (List.mem_of_mem_drop (List.getElem_mem hkl))
              have dy := hb.below hbq hlb (k + 1) (by omega)
              have e3 : L[k + 1]'(by omega) = (L.drop 1)[k] := by simp
              rw [e3] at dy
              generalize (L.drop 1)[k] = y at *
              generalize foldCp (x % 16) ((L.drop 1).take k) = q at *
              obtain ⟨q0, q1, q2, q3, q4, q5⟩ := hsm
              unfold Byte at hy
              have t1 : y.tmod 64 = y % 64 := tmodp hy.1
              have t2 : wrap64 (q * 64) = q * 64 := w64 (by omega) (by omega)
              have t3 : wrap64 (q * 64 + y % 64) = q * 64 + y % 64 := w64 (by omega) (by omega)
              have t4 : ((k + 1 : Nat) : Int) < n := by omega
              have t5 : wrap64 y = y := w64 (by omega) (by omega)
              have hf' := Lib.hid hf
              clear e1 hf e3
              go_wp2
              go_roundw
              case rel => exact ⟨k + 1, by simp, by omega, by rw [hf'.out], by rw [hf'.out]; exact ⟨by omega, by omega, by omega, by omega, by omega, by omega⟩, hbq⟩
              case measure => simp [intOf]; omega
            · obtain rfl : k = 2 := by omega
              rw [← hcp'.out] at hsm ⊢
              have hs2 := Lib.hid (is_any (cpOf L 3))
              have hbcp := Lib.hid (fun h0 h1 w => bytes_any (cpOf L 3) h0 h1 w)
              have hhit := Lib.hid (show hitCp L 3 = (isCp (cpOf L 3) && decide ((bytesCp (cpOf L 3)).length = 3) && (bytesCp (cpOf L 3)).isPrefixOf L) from rfl)
              have hst2 := Lib.hid (fun (g og cg : Nat) (M : List Int) (W : World) (hbW : Bs W b o L) (hgW : Bs W g og M) (hlW : b < W.heap.size) (hlg : g < W.heap.size) => starts_any b o cap g og cg L M n M.length hn rfl hn2 W hbW hgW hlW hlg _ rfl)
              have h0q := hsm.s0
              have hqb : 3 = 1 ∨ 3 = 2 ∨ 3 = 3 ∨ 3 = 4 := by omega
              generalize cpOf L 3 = q at *
              clear hsm hcp'
              cases hi : isCp q
              · rw [hi] at hs2
                have e := hst.out
                rw [hhit.out, hi] at e
                simp only [Bool.false_and, Bool.false_eq_true, if_false] at e
                have e' := Lib.hid (hp'.out.trans e)
                clear e hi
                go_wp2_with (go_at_call 77; refine (hs2.out _).mono ?_; rintro e w1 ⟨rfl, hb1⟩)
                exact ⟨⟨4, rfl, by omega, by omega, Below.after hbq hb1 zq, e'.out⟩, by simp [intOf]⟩
              · have h1q : q ≤ 1114111 := by
                  simp only [isCp, decide_eq_true_eq] at hi
                  exact hi.2.1
                have hbcp2 := Lib.hid (hbcp.out h0q h1q)
                unfold BytesPost at hbcp2
                rw [hi] at hs2 hhit
                simp only [Bool.true_and] at hhit
                clear hi hbcp
                generalize bytesCp q = M at *
                have hst3 := Lib.hid (fun (g : Nat) cg (W : World) (hbW : Bs W b o L) => hst2.out g 0 cg M W hbW)
                clear hst2
                generalize hln : M.length = ln at *
                have hln' := Lib.hid hln
                clear hln
                by_cases hl : ln = 3
                · subst hl
                  simp only [decide_true, Bool.true_and] at hhit
                  generalize M.isPrefixOf L = pr at *
                  cases pr
                  · have e := hst.out
                    rw [hhit.out] at e
                    simp only [Bool.false_eq_true, if_false] at e
                    have e' := Lib.hid (hp'.out.trans e)
                    clear e
                    go_wp2_with (first
                      | (go_at_call 77; refine (hs2.out _).mono ?_; rintro e w1 ⟨rfl, hb1⟩; have z1 := hb1.size)
                      | (go_at_call 78; refine (hbcp2.out _).mono ?_; rintro e w2 ⟨g, cg, rfl, hcg, hgs, hgl, hb2⟩; have z2 := hb2.size)
                      | (go_at_call 79; refine (hst3.out _ _ _ (hb.below (Below.after (Below.after hbq hb1 zq) hb2 (by omega)) hlb) hgs (by omega) hgl).mono ?_; rintro e w3 ⟨rfl, hb3⟩))
                    exact ⟨⟨4, rfl, by omega, by omega, Below.after (Below.after (Below.after hbq hb1 zq) hb2 (by omega)) hb3 (by omega), e'.out⟩, by simp [intOf]⟩
                  · have e := hst.out
                    rw [hhit.out] at e
                    simp only [if_true] at e
                    have e2 := (hr'.out.symm.trans (hp'.out.trans e))
                    subst e2
                    go_wp2_with (first
                      | (go_at_call 77; refine (hs2.out _).mono ?_; rintro e w1 ⟨rfl, hb1⟩; have z1 := hb1.size)
                      | (go_at_call 78; refine (hbcp2.out _).mono ?_; rintro e w2 ⟨g, cg, rfl, hcg, hgs, hgl, hb2⟩; have z2 := hb2.size)
                      | (go_at_call 79; refine (hst3.out _ _ _ (hb.below (Below.after (Below.after hbq hb1 zq) hb2 (by omega)) hlb) hgs (by omega) hgl).mono ?_; rintro e w3 ⟨rfl, hb3⟩))
                    exact bodyPost_ret (v := .tuple #[.int .i64 q, .int .i64 3]) (by simp [results, Tryd.results61, go_sem]) rfl ⟨rfl, Below.after (Below.after (Below.after hbq hb1 zq) hb2 (by omega)) hb3 (by omega)⟩
                · have e := hst.out
                  rw [hhit.out] at e
                  simp only [hl, decide_false, Bool.false_and, Bool.false_eq_true, if_false] at e
                  have e' := Lib.hid (hp'.out.trans e)
                  clear e hst3
                  have hl' : ¬((ln : Int) = 3) := by omega
                  go_wp2_with (first
                    | (go_at_call 77; refine (hs2.out _).mono ?_; rintro e w1 ⟨rfl, hb1⟩; have z1 := hb1.size)
                    | (go_at_call 78; refine (hbcp2.out _).mono ?_; rintro e w2 ⟨g, cg, rfl, hcg, hgs, hgl, hb2⟩; have z2 := hb2.size))
                  exact ⟨⟨4, rfl, by omega, by omega, Below.after (Below.after hbq hb1 zq) hb2 (by omega), e'.out⟩, by simp [intOf]⟩
      · -- 4
        have hcp : cpOf L 4 = foldCp (x % 8) ((L.drop 1).take 3) := (congrArg (fun l => cpOf l 4) hxL'.out).trans (by simp [cpOf, modB])
        have hst := Lib.hid (show beginF L (5 - 4) 4 = if hitCp L 4 then (cpOf L 4, (4 : Int)) else beginF L (5 - 5) 5 from by
          show (if 4 ≤ 4 ∧ 4 ≤ L.length then _ else _) = _
          rw [if_pos ⟨by omega, by omega⟩]; rfl)
        have hcp' := Lib.hid hcp
        have lb : b < wr.heap.size := by omega
        have u1 : wrap64 x = x := w64 (by omega) (by omega)
        clear hcp
        have u2 : x.tmod 8 = x % 8 := tmodp hbx.1
        go_upto_region 6 with fail
        go_cut [5] (fun c wx => c = .int .i64 (x % 8) ∧ Below w.heap.size w wx)
        case first =>
          go_region
          all_goals (go_wp2_with fail; go_meet)
          all_goals (refine ⟨rfl, ?_⟩)
          all_goals repeat' (first | (with_reducible exact hbw) | (with_reducible refine Below.alloc ?_ (by go_size) _) | (with_reducible refine Below.drew ?_))
        case rest =>
          obtain ⟨rfl, hbx2⟩ := hcut
          go_wp2
          go_loopw [6, 5] (fun i c wr => ∃ k : Nat, i = .int .i64 ((k + 1 : Nat) : Int) ∧ k ≤ 3 ∧ c = .int .i64 (foldCp (x % 8) ((L.drop 1).take k)) ∧ Sm (foldCp (x % 8) ((L.drop 1).take k)) k ∧ Below w.heap.size w wr) (fun i _ _ => 6 - (intOf i).toNat)
          case atStart => exact ⟨0, rfl, by omega, by simp [foldCp], by simp [foldCp]; exact ⟨by omega, by omega, by omega, by omega, by omega, by omega⟩, hbx2⟩
          case round =>
            obtain ⟨k, rfl, hk, rfl, hsm, hbq⟩ := hrel
            have zq := hbq.size
            by_cases hkm : k < 3
            · have hkl : k < (L.drop 1).length := by simp; omega
              have e1 : (L.drop 1).take (k + 1) = (L.drop 1).take k ++ [(L.drop 1)[k]] := List.take_succ_eq_append_getElem hkl
              have hf := foldCp_snoc (x % 8) ((L.drop 1).take k) (L.drop 1)[k]
              rw [← e1] at hf
              have hy := hL _ (List.mem_of_mem_drop (List.getElem_mem hkl))
              have dy := hb.below hbq hlb (k + 1) (by omega)
              have e3 : L[k + 1]'(by omega) = (L.drop 1)[k] := by simp
              rw [e3] at dy
              generalize (L.drop 1)[k] = y at *
              generalize foldCp (x % 8) ((L.drop 1).take k) = q at *
              obtain ⟨q0, q1, q2, q3, q4, q5⟩ := hsm
              unfold Byte at hy
              have t1 : y.tmod 64 = y % 64 := tmodp hy.1
              have t2 : wrap64 (q * 64) = q * 64 := w64 (by omega) (by omega)
              have t3 : wrap64 (q * 64 + y % 64) = q * 64 + y % 64 := w64 (by omega) (by omega)
              have t4 : ((k + 1 : Nat) : Int) < n := by omega
              have t5 : wrap64 y = y := w64 (by omega) (by omega)
              have hf' := Lib.hid hf
              clear e1 hf e3
              go_wp2
              go_roundw
              case rel => exact ⟨k + 1, by simp, by omega, by rw [hf'.out], by rw [hf'.out]; exact ⟨by omega, by omega, by omega, by omega, by omega, by omega⟩, hbq⟩
              case measure => simp [intOf]; omega
            · obtain rfl : k = 3 := by omega
              rw [← hcp'.out] at hsm ⊢
              have hs2 := Lib.hid (is_any (cpOf L 4))
              have hbcp := Lib.hid (fun h0 h1 w => bytes_any (cpOf L 4) h0 h1 w)
              have hhit := Lib.hid (show hitCp L 4 = (isCp (cpOf L 4) && decide ((bytesCp (cpOf L 4)).length = 4) && (bytesCp (cpOf L 4)).isPrefixOf L) from rfl)
              have hst2 := Lib.hid (fun (g og cg : Nat) (M : List Int) (W : World) (hbW : Bs W b o L) (hgW : Bs W g og M) (hlW : b < W.heap.size) (hlg : g < W.heap.size) => starts_any b o cap g og cg L M n M.length hn rfl hn2 W hbW hgW hlW hlg _ rfl)
              have h0q := hsm.s0
              have hqb : 4 = 1 ∨ 4 = 2 ∨ 4 = 3 ∨ 4 = 4 := by omega
              generalize cpOf L 4 = q at *
              clear hsm hcp'
              cases hi : isCp q
              · rw [hi] at hs2
                have e := hst.out
                rw [hhit.out, hi] at e
                simp only [Bool.false_and, Bool.false_eq_true, if_false] at e
                have e' := Lib.hid (hp'.out.trans e)
                clear e hi
                go_wp2_with (go_at_call 77; refine (hs2.out _).mono ?_; rintro e w1 ⟨rfl, hb1⟩)
                exact ⟨⟨5, rfl, by omega, by omega, Below.after hbq hb1 zq, e'.out⟩, by simp [intOf]⟩
              · have h1q : q ≤ 1114111 := by
                  simp only [isCp, decide_eq_true_eq] at hi
                  exact hi.2.1
                have hbcp2 := Lib.hid (hbcp.out h0q h1q)
                unfold BytesPost at hbcp2
                rw [hi] at hs2 hhit
                simp only [Bool.true_and] at hhit
                clear hi hbcp
                generalize bytesCp q = M at *
                have hst3 := Lib.hid (fun (g : Nat) cg (W : World) (hbW : Bs W b o L) => hst2.out g 0 cg M W hbW)
                clear hst2
                generalize hln : M.length = ln at *
                have hln' := Lib.hid hln
                clear hln
                by_cases hl : ln = 4
                · subst hl
                  simp only [decide_true, Bool.true_and] at hhit
                  generalize M.isPrefixOf L = pr at *
                  cases pr
                  · have e := hst.out
                    rw [hhit.out] at e
                    simp only [Bool.false_eq_true, if_false] at e
                    have e' := Lib.hid (hp'.out.trans e)
                    clear e
                    go_wp2_with (first
                      | (go_at_call 77; refine (hs2.out _).mono ?_; rintro e w1 ⟨rfl, hb1⟩; have z1 := hb1.size)
                      | (go_at_call 78; refine (hbcp2.out _).mono ?_; rintro e w2 ⟨g, cg, rfl, hcg, hgs, hgl, hb2⟩; have z2 := hb2.size)
                      | (go_at_call 79; refine (hst3.out _ _ _ (hb.below (Below.after (Below.after hbq hb1 zq) hb2 (by omega)) hlb) hgs (by omega) hgl).mono ?_; rintro e w3 ⟨rfl, hb3⟩))
                    exact ⟨⟨5, rfl, by omega, by omega, Below.after (Below.after (Below.after hbq hb1 zq) hb2 (by omega)) hb3 (by omega), e'.out⟩, by simp [intOf]⟩
                  · have e := hst.out
                    rw [hhit.out] at e
                    simp only [if_true] at e
                    have e2 := (hr'.out.symm.trans (hp'.out.trans e))
                    subst e2
                    go_wp2_with (first
                      | (go_at_call 77; refine (hs2.out _).mono ?_; rintro e w1 ⟨rfl, hb1⟩; have z1 := hb1.size)
                      | (go_at_call 78; refine (hbcp2.out _).mono ?_; rintro e w2 ⟨g, cg, rfl, hcg, hgs, hgl, hb2⟩; have z2 := hb2.size)
                      | (go_at_call 79; refine (hst3.out _ _ _ (hb.below (Below.after (Below.after hbq hb1 zq) hb2 (by omega)) hlb) hgs (by omega) hgl).mono ?_; rintro e w3 ⟨rfl, hb3⟩))
                    exact bodyPost_ret (v := .tuple #[.int .i64 q, .int .i64 4]) (by simp [results, Tryd.results61, go_sem]) rfl ⟨rfl, Below.after (Below.after (Below.after hbq hb1 zq) hb2 (by omega)) hb3 (by omega)⟩
                · have e := hst.out
                  rw [hhit.out] at e
                  simp only [hl, decide_false, Bool.false_and, Bool.false_eq_true, if_false] at e
                  have e' := Lib.hid (hp'.out.trans e)
                  clear e hst3
                  have hl' : ¬((ln : Int) = 4) := by omega
                  go_wp2_with (first
                    | (go_at_call 77; refine (hs2.out _).mono ?_; rintro e w1 ⟨rfl, hb1⟩; have z1 := hb1.size)
                    | (go_at_call 78; refine (hbcp2.out _).mono ?_; rintro e w2 ⟨g, cg, rfl, hcg, hgs, hgl, hb2⟩; have z2 := hb2.size))
                  exact ⟨⟨5, rfl, by omega, by omega, Below.after (Below.after hbq hb1 zq) hb2 (by omega), e'.out⟩, by simp [intOf]⟩
    · have e := hr'.out
      have e2 : beginF L (5 - m) m = (0, 0) := by
        rcases Nat.lt_or_ge 4 m with h | h
        · obtain rfl : m = 5 := by omega
          rfl
        · obtain ⟨f, hf⟩ : ∃ f, 5 - m = f + 1 := ⟨4 - m, by omega⟩
          rw [hf]
          show (if m ≤ 4 ∧ m ≤ L.length then _ else _) = _
          rw [if_neg (by rw [hn]; exact hlt)]
      rw [hp'.out, e2] at e
      subst e
      have hz : 4 < (m : Int) ∨ (n : Int) < m := by omega
      rcases hz with hz | hz
      all_goals go_wp2
      all_goals exact bodyPost_ret (v := .tuple #[.int .i64 0, .int .i64 0]) (by simp [results, Tryd.results61, go_sem]) rfl ⟨rfl, hbw⟩

end Go.Proofs.YtmleipmilmeclaaDoor
