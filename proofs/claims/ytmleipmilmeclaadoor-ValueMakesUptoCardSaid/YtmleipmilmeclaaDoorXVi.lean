/- The reference's within: plain, and its walk; Right. -/
import Derived.Test.YtmleipmilmeclaaDoorXVg
namespace Go.Proofs.YtmleipmilmeclaaDoor
open Go.RowKit
attribute [local go_sem ↓] Go.wp_at_zero Go.wp_at_succ

noncomputable def winK (f : T → Int → Int) : List T → Int → Int → Int
  | [], _, n => n
  | u :: r, M, n => if f u (M - n) = 0 then 0 else winK f r M (n + f u (M - n))
noncomputable def within : Nat → T → Int → Int → Int
  | 0, _, _, _ => 0
  | h + 1, t, L, M => if M < 1 ∨ al t = false ∨ (5 ≤ t.k ∧ L = 0) then 0 else winK (fun u m => within h u (L - 1) m) t.kids M 1

theorem winK_bound (f : T → Int → Int) (hf : ∀ u m, 0 ≤ m → 0 ≤ f u m ∧ f u m ≤ m) : ∀ (l : List T) (M n : Int), 0 ≤ n → n ≤ M → 0 ≤ winK f l M n ∧ winK f l M n ≤ M
  | [], M, n, h0, h1 => ⟨h0, h1⟩
  | u :: r, M, n, h0, h1 => by
    have := hf u (M - n) (by omega)
    unfold winK
    split
    · omega
    · exact winK_bound f hf r M _ (by omega) (by omega)

theorem within_bound : ∀ (h : Nat) (t : T) (L M : Int), 0 ≤ M → 0 ≤ within h t L M ∧ within h t L M ≤ M
  | 0, _, _, M, hM => ⟨Int.le_refl _, hM⟩
  | h + 1, t, L, M, hM => by
    unfold within
    split
    · omega
    · rename_i hc
      exact winK_bound _ (fun u m hm => within_bound h u (L - 1) m hm) _ M 1 (by omega) (by omega)

/-- Is a node right, so many levels being left? -/
def okX (m : Int) (x : Int × Int × Bool) : Prop := ((x.2.1 = 5 ∨ x.2.1 = 6) → x.1 + 1 ≤ m) ∧ x.2.2 = true

def okXs (m : Int) (l : List (Int × Int × Bool)) : Prop := ∀ x ∈ l, okX m x
theorem okXs_append (m : Int) (a b : List (Int × Int × Bool)) : okXs m (a ++ b) ↔ okXs m a ∧ okXs m b :=
  ⟨fun h => ⟨fun x hx => h x (List.mem_append.2 (.inl hx)), fun x hx => h x (List.mem_append.2 (.inr hx))⟩, fun h x hx => (List.mem_append.1 hx).elim (h.1 x) (h.2 x)⟩
open Classical in
noncomputable def okLen (m M n : Int) (l : List (Int × Int × Bool)) : Int := if n + (l.length : Int) ≤ M ∧ okXs m l then n + (l.length : Int) else 0

theorem preT_pos : ∀ (h : Nat) (d : Int) (t : T), Ht h t → 1 ≤ (preT h d t).length
  | 0, _, _, hh => hh.elim
  | h + 1, d, t, _ => by simp [preT]

theorem within_spec (m : Int) : ∀ (h : Nat) (d : Int) (t : T) (M : Int), Ht h t → d ≤ m →
    within h t (m - d) M = okLen m M 0 (preT h d t)
  | 0, _, _, _, hh, _ => hh.elim
  | h + 1, d, t, M, hh, hd => by
    unfold within
    have hpre : preT (h + 1) d t = (d, t.k, al t) :: (t.kids.map (preT h (d + 1))).flatten := rfl
    rw [hpre]
    by_cases hM : M < 1
    · rw [if_pos (.inl hM)]
      unfold okLen
      rw [if_neg (by rintro ⟨h1, _⟩; rw [List.length_cons] at h1; omega)]
    · by_cases ha : al t = false
      · rw [if_pos (.inr (.inl ha))]
        unfold okLen
        rw [if_neg]
        rintro ⟨_, h1⟩
        have h2 := (h1 (d, t.k, al t) (by simp)).2
        simp only at h2
        rw [h2] at ha; cases ha
      · have ha' : al t = true := by simpa using ha
        have hA := (al_iff t).1 ha'
        have h56 : 5 ≤ t.k ↔ (t.k = 5 ∨ t.k = 6) := by unfold Al at hA; omega
        by_cases hk : 5 ≤ t.k ∧ m - d = 0
        · rw [if_pos (.inr (.inr hk))]
          unfold okLen
          rw [if_neg]
          rintro ⟨_, h1⟩
          have h2 := (h1 (d, t.k, al t) (by simp)).1 (h56.1 hk.1)
          simp only at h2
          omega
        · rw [if_neg (fun h => h.elim hM fun h => h.elim ha hk)]
          have hokx : okX m (d, t.k, al t) := ⟨fun h => by simp only at h ⊢; have := h56.2 h; omega, ha'⟩
          have hkid : t.kids = [] ∨ d + 1 ≤ m := by
            rcases Nat.eq_zero_or_pos t.kids.length with e | e
            · exact .inl (List.length_eq_zero_iff.1 e)
            · right
              have : 5 ≤ t.k := by unfold Al at hA; omega
              omega
          have key : ∀ (l : List T), (∀ u ∈ l, Ht h u) → (l = [] ∨ d + 1 ≤ m) → ∀ n : Int, 1 ≤ n → n ≤ M → winK (fun u q => within h u (m - d - 1) q) l M n = okLen m M n (l.map (preT h (d + 1))).flatten := by
            intro l
            induction l with
            | nil => intro _ _ n h1 h2; simp [winK, okLen, h2, okXs]
            | cons u r ih =>
              intro hu hd' n h1 h2
              have hd2 : d + 1 ≤ m := by rcases hd' with h | h; cases h; exact h
              have e := within_spec m h (d + 1) u (M - n) (hu u (by simp)) hd2
              have hp := preT_pos h (d + 1) u (hu u (by simp))
              rw [show m - (d + 1) = m - d - 1 by omega] at e
              simp only [winK, e, List.map_cons, List.flatten_cons]
              generalize preT h (d + 1) u = P at *
              by_cases hc : (0 : Int) + (P.length : Int) ≤ M - n ∧ okXs m P
              · have e1 : okLen m (M - n) 0 P = P.length := by unfold okLen; rw [if_pos hc]; omega
                rw [e1, if_neg (by omega), ih (fun v hv => hu v (by simp [hv])) (.inr hd2) _ (by omega) (by omega)]
                generalize (r.map (preT h (d + 1))).flatten = R
                unfold okLen
                rw [okXs_append]
                have e2 : n + ((P ++ R).length : Int) = n + (P.length : Int) + (R.length : Int) := by rw [List.length_append]; omega
                rw [e2]
                by_cases hR : n + (P.length : Int) + (R.length : Int) ≤ M ∧ okXs m R
                · rw [if_pos hR, if_pos ⟨hR.1, hc.2, hR.2⟩]
                · rw [if_neg hR, if_neg (fun g => hR ⟨g.1, g.2.2⟩)]
              · have e1 : okLen m (M - n) 0 P = 0 := by unfold okLen; rw [if_neg hc]
                rw [e1, if_pos rfl]
                unfold okLen
                rw [if_neg]
                rintro ⟨g1, g2⟩
                rw [List.length_append] at g1
                exact hc ⟨by omega, ((okXs_append _ _ _).1 g2).1⟩
          rw [key t.kids (fun u hu => by
            obtain ⟨i, hi, rfl⟩ := List.getElem_of_mem hu
            exact hh i hi) hkid 1 (by omega) (by omega)]
          generalize (t.kids.map (preT h (d + 1))).flatten = R
          unfold okLen
          have e1 : okXs m ((d, t.k, al t) :: R) ↔ okXs m R := by unfold okXs; rw [List.forall_mem_cons]; exact ⟨fun h => h.2, fun h => ⟨hokx, h⟩⟩
          have e2 : (0 : Int) + (((d, t.k, al t) :: R).length : Int) = 1 + (R.length : Int) := by rw [List.length_cons]; omega
          rw [e2]
          by_cases hR : 1 + (R.length : Int) ≤ M ∧ okXs m R
          · rw [if_pos hR, if_pos ⟨hR.1, e1.2 hR.2⟩]
          · rw [if_neg hR, if_neg (fun g => hR ⟨g.1, e1.1 g.2⟩)]

theorem within_right (h : Nat) (t : T) (hh : Ht h t) : decide (0 < within h t 8 256) = rightT h t := by
  have e := within_spec 8 h 0 t 256 hh (by omega)
  have hp := preT_pos h 0 t hh
  rw [Bool.eq_iff_iff, rightT_iff, decide_eq_true_eq, show (8 : Int) = 8 - 0 from rfl, e]
  unfold RightT okLen
  constructor
  · intro h1
    split at h1
    · rename_i hc
      exact ⟨by omega, fun x hx => (hc.2 x hx).1, fun x hx => (hc.2 x hx).2⟩
    · omega
  · rintro ⟨h1, h2, h3⟩
    rw [if_pos ⟨by omega, fun x hx => ⟨h2 x hx, h3 x hx⟩⟩]
    omega

end Go.Proofs.YtmleipmilmeclaaDoor

/- Walks: the reference's within and Right. -/
namespace Go.Proofs.YtmleipmilmeclaaDoor
open Go.RowKit
attribute [local go_sem ↓] Go.wp_at_zero Go.wp_at_succ

theorem winK_step (f : T → Int → Int) (l : List T) (i : Nat) (hi : i < l.length) (M n : Int) : winK f (l.drop i) M n = if f l[i] (M - n) = 0 then 0 else winK f (l.drop (i + 1)) M (n + f l[i] (M - n)) := by
  rw [List.drop_eq_getElem_cons hi]; rfl

set_option maxRecDepth 100000 in
set_option maxHeartbeats 1000000 in
theorem within_any : ∀ (h : Nat) (W : World) (v : V5) (t : T) (L M : Int), Lay W h v t → 0 ≤ L → L ≤ 4096 → 0 ≤ M → M ≤ 4096 →
    Calls Tryd.prog 45 #[v.v, .int .i64 L, .int .i64 M] W fun e w' => e = .returned (.int .i64 (within h t L M)) ∧ Below W.heap.size W w'
  | 0, _, _, _, _, _, hl, _, _, _, _ => hl.elim
  | h + 1, W, v, t, L, M, hl, hL, hL2, hM, hM2 => by
    have ih := Lib.hid (within_any h)
    have ha := Lib.hid (fun W' (hb : Below W.heap.size W W') => alone_any (hl.below hb))
    have hA := Lib.hid (fun e : al t = true => (al_iff t).1 e)
    have hdef : within (h + 1) t L M = if M < 1 ∨ al t = false ∨ (5 ≤ t.k ∧ L = 0) then 0 else winK (fun u m => within h u (L - 1) m) t.kids M 1 := rfl
    have hwb := Lib.hid (fun u m hm => within_bound h u (L - 1) m hm)
    obtain ⟨⟨e1, e2, e3, e4, e5, sm⟩, h2, h3⟩ := hl
    obtain ⟨vk, vn, vs, vp, vnp, vcp, vq, vnq, vcq⟩ := v
    simp only at e1 e2 e3 e4 e5 h2 h3
    simp only [V5.v, V5.cs] at ha ⊢
    have hk5 : al t = true → t.kids ≠ [] → 5 ≤ vk := fun e hn => by
      have := hA.out e
      unfold Al at this
      have : t.kids.length ≠ 0 := fun e => hn (List.length_eq_zero_iff.1 e)
      omega
    rw [hdef, ← e1]
    clear hdef hA e1 e2 e3 e4 h2
    have sm4 := sm.2.2.2
    clear sm
    generalize al t = r at *
    generalize t.kids = ks at *
    subst e5
    have hk5' := Lib.hid hk5
    have h3' := Lib.hid h3
    clear hk5 h3
    by_cases c1 : M < 1
    · rw [if_pos (.inl c1)]
      go_enter Tryd.func45, Tryd.ntmps45
      go_wp2_with fail
      go_ret
      exact ⟨rfl, by go_grown⟩
    · cases r
      · rw [if_pos (.inr (.inl rfl))]
        go_enter Tryd.func45, Tryd.ntmps45
        go_wp2_with (first | (go_at_call 64; refine (ha.out _ (by go_grown)).mono ?_; rintro e w1 ⟨rfl, hb1⟩))
        go_ret
        exact ⟨rfl, Below.after (by go_grown) hb1 (by go_size)⟩
      · by_cases c2 : 5 ≤ vk ∧ L = 0
        · rw [if_pos (.inr (.inr c2))]
          obtain ⟨c3, rfl⟩ := c2
          have kb0 := Blk.new W #[.int .i64 vk, .int .i64 vn, .string vs, .slice vp ks.length vcp, .slice vq vnq vcq] 39
          go_enter Tryd.func45, Tryd.ntmps45
          go_wp2_with (first | (go_at_call 64; refine (ha.out _ (by go_grown)).mono ?_; rintro e w1 ⟨rfl, hb1⟩; (have kb := kb0.kept hb1); (have x0 := kb.cell 0); (have x3 := kb.cell 3); (have z1 := kb.lt); (simp at x0 x3)))
          go_ret
          exact ⟨rfl, Below.after (by go_grown) hb1 (by go_size)⟩
        · rw [if_neg (fun h => h.elim c1 fun h => h.elim (by simp) c2)]
          have kb0 := Blk.new W #[.int .i64 vk, .int .i64 vn, .string vs, .slice vp ks.length vcp, .slice vq vnq vcq] 39
          have hd : decide (vk ≥ 5) = true → (L == 0) = false := fun h => by
            have : 5 ≤ vk := by simpa using h
            simp; omega
          go_enter Tryd.func45, Tryd.ntmps45
          go_wp2_with (first | (go_at_call 64; refine (ha.out _ (by go_grown)).mono ?_; rintro e w1 ⟨rfl, hb1⟩; (have kb := kb0.kept hb1); (have x0 := kb.cell 0); (have x3 := kb.cell 3); (have z1 := kb.lt); (simp at x0 x3)))
          all_goals clear x0 x3
          all_goals
            have hbw1 : Below W.heap.size W w1 := Below.after (by go_grown) hb1 (by go_size)
            generalize hf : (fun (u : T) (m : Int) => within h u (L - 1) m) = f at *
            go_loopw [8, 7] (fun i p wr => ∃ (j : Nat) (n : Int), i = .int .i64 (j : Int) ∧ p = .int .i64 n ∧ j ≤ ks.length ∧ 1 ≤ n ∧ n ≤ M ∧ winK f ks M 1 = winK f (ks.drop j) M n ∧ Blk wr W.heap.size #[.int .i64 vk, .int .i64 vn, .string vs, .slice vp ks.length vcp, .slice vq vnq vcq] 39 ∧ Below W.heap.size W wr) (fun i _ _ => ks.length - (intOf i).toNat)
            case atStart => exact ⟨0, 1, rfl, rfl, by omega, by omega, by omega, rfl, kb, hbw1⟩
            case round =>
              obtain ⟨j, n, rfl, rfl, hj, hn1, hn2, hw, kb2, hbw⟩ := hrel
              have x3 := kb2.cell 3
              have zr := kb2.lt
              simp at x3
              by_cases hlt : j < ks.length
              · have hlz : (j : Int) < ks.length := by omega
                rcases h3'.out with h3 | ⟨b, o, rfl, hlb, hkc⟩
                · rw [h3] at hlt; simp at hlt
                have h5 := hk5'.out (by trivial) (by rintro rfl; simp at hlt)
                try (exfalso; omega)
                all_goals
                  have hL0 : 1 ≤ L := by omega
                  obtain ⟨u, hu, hlu⟩ := hkc j hlt
                  have hlw := hlu.below hbw
                  obtain ⟨y0, y1, y2, y3, y4⟩ := hu.below hbw hlb
                  have hc := ih.out wr u ks[j] (L - 1) (M - n) hlw (by omega) (by omega) (by omega) (by omega)
                  have hbd := hwb.out ks[j] (M - n) (by omega)
                  rw [winK_step f ks j hlt] at hw
                  have hfe : within h ks[j] (L - 1) (M - n) = f ks[j] (M - n) := by rw [← hf]
                  rw [hfe] at hc hbd
                  generalize f ks[j] (M - n) = q at *
                  clear hkc hlu hlw hfe
                  obtain ⟨uk, un, us, up, unp, ucp, uq, unq, ucq⟩ := u
                  simp only [V5.v, V5.cs] at hc y0 y1 y2 y3 y4
                  have lb : b < wr.heap.size := by have := hbw.size; omega
                  have hc' := Lib.hid hc
                  have hw' := Lib.hid hw
                  clear hc hw
                  by_cases hq : q = 0
                  · subst hq
                    have hz := Lib.hid (hw'.out.trans (if_pos rfl))
                    clear hw'
                    go_wp2_with (first | (go_at_call 45; refine hc'.out.mono ?_; rintro e w2 ⟨rfl, hb2⟩))
                    go_ret
                    refine ⟨?_, Below.after hbw hb2 (by omega)⟩
                    subst hf
                    rw [hz.out]
                    rfl
                  · go_wp2_with (first | (go_at_call 45; refine hc'.out.mono ?_; rintro e w2 ⟨rfl, hb2⟩))
                    refine ⟨⟨j + 1, n + q, by simp, rfl, by omega, by omega, by omega, ?_, kb2.kept hb2, Below.after hbw hb2 (by omega)⟩, by simp [intOf]; omega⟩
                    rw [hw'.out, if_neg hq]
              · obtain rfl : j = ks.length := by omega
                have hlz : ¬((ks.length : Int) < ks.length) := by omega
                rw [List.drop_length] at hw
                have hw' := Lib.hid hw
                clear hw
                go_wp2_with fail
                go_ret
                refine ⟨?_, hbw⟩
                subst hf
                rw [hw'.out]
                rfl

set_option maxHeartbeats 1000000 in
theorem rright_any {W : World} {h : Nat} {v : V5} {t : T} (hl : Lay W h v t) :
    Calls Tryd.prog 21 #[v.v] W fun e w' => e = .returned (.bool (rightT h t)) ∧ Below W.heap.size W w' := by
  rw [← within_right h t hl.ht]
  have hc := fun W' (hb : Below W.heap.size W W') => within_any h W' v t 8 256 (hl.below hb) (by omega) (by omega) (by omega) (by omega)
  generalize within h t 8 256 = q at *
  have hc' := Lib.hid hc
  clear hc hl
  obtain ⟨vk, vn, vs, vp, vnp, vcp, vq, vnq, vcq⟩ := v
  simp only [V5.v, V5.cs] at hc' ⊢
  go_enter Tryd.func21, Tryd.ntmps21
  go_wp2_with (first | (go_at_call 45; refine (hc'.out _ (by go_grown)).mono ?_; rintro e w2 ⟨rfl, hb2⟩))
  go_ret
  exact ⟨rfl, Below.after (by go_grown) hb2 (by go_size)⟩

end Go.Proofs.YtmleipmilmeclaaDoor
