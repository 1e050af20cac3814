/- Walks: the reference's alone. -/
import Derived.Test.YtmleipmilmeclaaDoorXVd
import Derived.Test.YtmleipmilmeclaaDoorXVh
import Derived.Test.YtmleipmilmeclaaDoorXVe
namespace Go.Proofs.YtmleipmilmeclaaDoor
open Go.RowKit
attribute [local go_sem ↓] Go.wp_at_zero Go.wp_at_succ

theorem Al_kOk {t : T} (h : Al t) : kOk t.ks t.ks.length := by
  have h0 : t.ks.length = 0 → kOk t.ks t.ks.length := fun e => by rw [e]; exact kOk_zero _
  unfold Al at h
  rcases h with h | h | h | h | h | h
  · exact h0 h.2.2.2.2
  · exact h0 h.2.2.2.2
  · exact h0 h.2.2.2
  · exact h0 h.2.2.2.2
  · exact h0 h.2.2.2
  · exact h.2.1

abbrev HK (vb : Nat) (cs : Array Value) (T : TypeId) (b o o' : Nat) (x y : Value) (w : World) : Prop := Hold vb cs T w ∧ w.cell? ⟨b, o, none⟩ = some x ∧ w.cell? ⟨b, o', none⟩ = some y
theorem HK.kept {vb : Nat} {cs : Array Value} {T : TypeId} {b o o' : Nat} {x y : Value} {w w' : World} (h : HK vb cs T b o o' x y w) (hb : Below w.heap.size w w') (hl : b < w.heap.size) : HK vb cs T b o o' x y w' :=
  ⟨h.1.kept hb, (hb.cell (p := ⟨b, o, none⟩) hl).trans h.2.1, (hb.cell (p := ⟨b, o', none⟩) hl).trans h.2.2⟩
theorem HK.drew {vb : Nat} {cs : Array Value} {T : TypeId} {b o o' : Nat} {x y : Value} {w : World} (h : HK vb cs T b o o' x y w) : HK vb cs T b o o' x y w.drew := ⟨h.1.drew, h.2⟩

set_option maxRecDepth 100000 in
set_option maxHeartbeats 1000000 in
theorem alone_any {W : World} {h : Nat} {v : V5} {t : T} (hl : Lay W h v t) :
    Calls Tryd.prog 64 #[v.v] W fun e w' => e = .returned (.bool (al t)) ∧ Below W.heap.size W w' := by
  match h, hl with
  | 0, hl => exact hl.elim
  | h + 1, ⟨⟨e1, e2, e3, e4, e5, sm⟩, h2, _⟩ =>
    obtain ⟨vk, vn, vs, vp, vnp, vcp, vq, vnq, vcq⟩ := v
    simp only at e1 e2 e3 e4 e5 h2
    have hbad : ¬kOk t.ks t.ks.length → al t = false := fun hn => by
      rw [Bool.eq_false_iff]; exact fun hh => hn (Al_kOk ((al_iff t).1 hh))
    have hal := al_iff t
    unfold Al at hal
    rw [← e1, ← e2, ← e3, ← e4, ← e5] at hal
    obtain ⟨sm1, sm2, sm3, _⟩ := sm
    rw [← e3] at sm1
    rw [← e4] at sm3
    generalize al t = r at *
    generalize t.ks = ks at *
    clear e1 e2 e3 e5
    subst e4
    have hss : vs = ⟨#[]⟩ ↔ vs.toList = [] := ⟨fun e => by rw [e]; exact nil_bytes, str_nil⟩
    simp only [hss] at hal
    have hal' := Lib.hid hal
    have hbad' := Lib.hid hbad
    have hv := Lib.hid (fun (k : ByteArray) (hk : k ∈ ks) w => valid_any k (sm2 k hk) w)
    have hv1 := Lib.hid (fun w => valid_any vs sm1 w)
    have hks := Lib.hid h2
    clear hal hbad sm2 sm1 h2
    simp only [V5.v, V5.cs]
    go_enter Tryd.func64, Tryd.ntmps64
    go_wp2
    go_loopw [3] (fun i wr => ∃ j : Nat, i = .int .i64 (j : Int) ∧ j ≤ ks.length ∧ kOk ks j ∧ Blk wr W.heap.size #[.int .i64 vk, .int .i64 vn, .string vs, .slice vp vnp vcp, .slice vq ks.length vcq] 39 ∧ Below W.heap.size W wr) (fun i _ => ks.length - (intOf i).toNat)
    case atStart => exact ⟨0, rfl, by omega, kOk_zero _, Blk.new _ _ _, by go_grown⟩
    case round =>
      obtain ⟨j, rfl, hj, hok, kb, hbw⟩ := hrel
      have z2 := hbw.size
      have c0 := kb.cell 0
      have c1 := kb.cell 1
      have c2 := kb.cell 2
      have c3 := kb.cell 3
      have c4 := kb.cell 4
      have l := kb.lt
      simp at c0 c1 c2 c3 c4
      have hok' := Lib.hid hok
      clear hok
      by_cases hlt : j < ks.length
      · have hlz : (j : Int) < ks.length := by omega
        rcases hks.out with hq | ⟨b, o, hq, hlb, hkc⟩
        · rw [hq] at hlt; simp at hlt
        subst hq
        have lb : b < wr.heap.size := by omega
        have d0 := (hbw.cell (p := ⟨b, o + j, none⟩) hlb).trans (hkc j hlt)
        have hvj := Lib.hid (hv.out ks[j] (List.getElem_mem hlt))
        have hst := Lib.hid (kOk_step hlt hok'.out)
        have hno := Lib.hid (fun h : kOk ks ks.length => h j hlt hlt)
        by_cases h0 : 0 < j
        · have d1 := (hbw.cell (p := ⟨b, o + (j - 1), none⟩) hlb).trans (hkc (j - 1) (by omega))
          generalize ks[j - 1] = g at *
          generalize ks[j] = g' at *
          clear hkc
          have hw1 : wrap64 ((j : Int) - 1) = ((j - 1 : Nat) : Int) := by unfold wrap64; omega
          have hw2 : ((j - 1 : Nat) : Int) < (ks.length : Int) := by omega
          generalize vld (bytesL g') = q at *
          generalize hbl : Op.bytesLess g.toList g'.toList = bl at *
          have hw3 : IntKind.i64.wrap ((j : Int) - 1) = ((j - 1 : Nat) : Int) := by rw [IntKind.wrap_i64]; omega
          have hw4 : (0 : Int) ≤ ((j - 1 : Nat) : Int) := by omega
          have hw5 : (0 : Int) ≤ (j : Int) := by omega
          have hS : HK W.heap.size #[.int .i64 vk, .int .i64 vn, .string vs, .slice vp vnp vcp, .slice (some ⟨b, o, none⟩) ks.length vcq] 39 b (o + j) (o + (j - 1)) (.string g') (.string g) wr := ⟨.mk' kb, d0, d1⟩
          cases q
          · -- no text
            go_upto_region 4 with fail
            refine wp_region_any (by kernel_rfl) ?_
            change wpAny _ _ _ _ _ _ _ (World.drew _)
            refine wpAny_take (i := 0) (oi := { dst := some 13, op := _, type := _, pos := _, after := _, guard := _ }) (v := ?_) rfl (by kernel_rfl) (by kernel_rfl) (by kernel_rfl) (fun _ _ _ h => h) (Or.inl ⟨by kernel_rfl, ?_⟩) ?_
            rotate_left
            · intro w; go_simp; (try with_reducible rfl)
            (try simp only [Act.put, List.setIfInBounds_toArray, List.set_cons_zero, List.set_cons_succ])
            refine wpAny_take (i := 2) (oi := { dst := some 15, op := _, type := _, pos := _, after := _, guard := _ }) (v := ?_) rfl (by kernel_rfl) (by kernel_rfl) (by kernel_rfl) (fun _ _ _ h => h) (Or.inl ⟨by kernel_rfl, ?_⟩) ?_
            rotate_left
            · intro w; go_simp; (try with_reducible rfl)
            (try simp only [Act.put, List.setIfInBounds_toArray, List.set_cons_zero, List.set_cons_succ])
            refine wpAny_ready (rs := [1]) (by kernel_rfl) (by simp) ?_
            refine AllReady.cons (o := { dst := some 14, op := _, type := _, pos := _, after := _, guard := _ }) rfl (fun K hK => ?_) AllReady.nil
            go_simp
            refine hK _ _ ?_
            clear hK K
            (try simp only [Act.put, List.setIfInBounds_toArray, List.set_cons_zero, List.set_cons_succ])
            refine wpAny_take (i := 3) (oi := { dst := some 16, op := _, type := _, pos := _, after := _, guard := _ }) (v := ?_) rfl (by kernel_rfl) (by kernel_rfl) (by kernel_rfl) (fun _ _ _ h => h) (Or.inl ⟨by kernel_rfl, ?_⟩) ?_
            rotate_left
            · intro w; go_simp; (try with_reducible rfl)
            (try simp only [Act.put, List.setIfInBounds_toArray, List.set_cons_zero, List.set_cons_succ])
            refine wpAny_ready (rs := [4]) (by kernel_rfl) (by simp) ?_
            refine AllReady.cons (o := { dst := some 17, op := _, type := _, pos := _, after := _, guard := _ }) rfl (fun K hK => ?_) AllReady.nil
            go_simp
            refine hK _ _ ?_
            clear hK K
            (try simp only [Act.put, List.setIfInBounds_toArray, List.set_cons_zero, List.set_cons_succ])
            refine wpAny_ready (rs := [5]) (by kernel_rfl) (by simp) ?_
            refine AllReady.cons (o := { dst := some 18, op := _, type := _, pos := _, after := _, guard := _ }) rfl (fun K hK => ?_) AllReady.nil
            go_simp
            refine (hvj.out _).mono ?_
            rintro e w1 ⟨rfl, hb1⟩
            obtain ⟨hc1, hf1⟩ := bcell hb1
            have z3 := hb1.size
            simp only [World.size_drew] at z3 hc1
            have y1 : W.heap.size < w1.heap.size := by omega
            have y2 : b < w1.heap.size := by omega
            refine hK _ _ ?_
            clear hK K
            (try simp only [Act.put, List.setIfInBounds_toArray, List.set_cons_zero, List.set_cons_succ])
            refine wpAny_take (i := 6) (oi := { dst := some 19, op := _, type := _, pos := _, after := _, guard := _ }) (v := ?_) rfl (by kernel_rfl) (by kernel_rfl) (by kernel_rfl) (fun _ _ _ h => h) (Or.inl ⟨by kernel_rfl, ?_⟩) ?_
            rotate_left
            · intro w; go_simp; (try with_reducible rfl)
            (try simp only [Act.put, List.setIfInBounds_toArray, List.set_cons_zero, List.set_cons_succ])
            refine wpAny_take (i := 7) (oi := { dst := some 20, op := _, type := _, pos := _, after := _, guard := _ }) (v := ?_) rfl (by kernel_rfl) (by kernel_rfl) (by kernel_rfl) (fun _ _ _ h => h) (Or.inl ⟨by kernel_rfl, ?_⟩) ?_
            rotate_left
            · intro w; go_simp; (try with_reducible rfl)
            (try simp only [Act.put, List.setIfInBounds_toArray, List.set_cons_zero, List.set_cons_succ])
            refine wpAny_skips [(8, 21), (9, 22), (10, 23), (11, 24), (12, 25), (13, 26), (14, 27), (15, 28), (16, 29), (17, 30), (18, 31), (19, 32), (20, 33), (21, 34), (22, 35), (23, 36)] (by kernel_rfl) (fun _ _ _ _ _ h => h) _ 1 _ _ (by kernel_rfl) (by kernel_rfl) ?_
            simp only [List.foldl_cons, List.foldl_nil, Act.put, List.setIfInBounds_toArray, List.set_cons_zero, List.set_cons_succ]
            refine wpAny_take (i := 24) (oi := { dst := some 37, op := _, type := _, pos := _, after := _, guard := _ }) (v := ?_) rfl (by kernel_rfl) (by kernel_rfl) (by kernel_rfl) (fun _ _ _ h => h) (Or.inl ⟨by kernel_rfl, ?_⟩) ?_
            rotate_left
            · intro w; go_simp; (try with_reducible rfl)
            (try simp only [Act.put, List.setIfInBounds_toArray, List.set_cons_zero, List.set_cons_succ])
            refine wpAny_done (by kernel_rfl) ?_ _
            go_wp2_with fail
            go_ret
            have hr : r = false := hbad'.out fun hk => by have := (hno.out hk).1; cases this
            subst hr
            exact ⟨rfl, Below.after (Below.drew hbw) hb1 (by simp only [World.size_drew]; omega)⟩
          · cases bl
            all_goals
              go_upto_region 4 with fail
              go_region_held3 (fun w' => HK W.heap.size #[.int .i64 vk, .int .i64 vn, .string vs, .slice vp vnp vcp, .slice (some ⟨b, o, none⟩) ks.length vcq] 39 b (o + j) (o + (j - 1)) (.string g') (.string g) w')
                (first | (with_reducible exact HK.drew hS) | (with_reducible exact HK.kept (by assumption) hb1 (by simp only [World.size_drew]; omega)) | (with_reducible assumption))
                (first | (go_at_call 14; refine (hvj.out _).mono ?_; rintro e w1 ⟨rfl, hb1⟩; have z3 := hb1.size; simp only [World.size_drew] at z3))
              go_wp2_with fail
            · go_ret
              have hr : r = false := hbad'.out fun hk => by have := (hno.out hk).2 h0; cases this
              subst hr
              exact ⟨rfl, Below.after (Below.drew hbw) hb1 (by simp only [World.size_drew]; omega)⟩
            · exact ⟨⟨j + 1, by simp, by omega, hst.out trivial (fun _ => trivial), (kb.drew).kept hb1, Below.after (Below.drew hbw) hb1 (by simp only [World.size_drew]; omega)⟩, by simp [intOf]; omega⟩
        · obtain rfl : j = 0 := by omega
          simp only [Nat.add_zero] at d0
          generalize ks[0] = g' at *
          clear hkc
          generalize vld (bytesL g') = q at *
          cases q
          ·
            go_upto_region 4 with fail
            refine wp_region_any (by kernel_rfl) ?_
            change wpAny _ _ _ _ _ _ _ (World.drew _)
            refine wpAny_take (i := 0) (oi := { dst := some 13, op := _, type := _, pos := _, after := _, guard := _ }) (v := ?_) rfl (by kernel_rfl) (by kernel_rfl) (by kernel_rfl) (fun _ _ _ h => h) (Or.inl ⟨by kernel_rfl, ?_⟩) ?_
            rotate_left
            · intro w; go_simp; (try with_reducible rfl)
            (try simp only [Act.put, List.setIfInBounds_toArray, List.set_cons_zero, List.set_cons_succ])
            refine wpAny_take (i := 2) (oi := { dst := some 15, op := _, type := _, pos := _, after := _, guard := _ }) (v := ?_) rfl (by kernel_rfl) (by kernel_rfl) (by kernel_rfl) (fun _ _ _ h => h) (Or.inl ⟨by kernel_rfl, ?_⟩) ?_
            rotate_left
            · intro w; go_simp; (try with_reducible rfl)
            (try simp only [Act.put, List.setIfInBounds_toArray, List.set_cons_zero, List.set_cons_succ])
            refine wpAny_ready (rs := [1]) (by kernel_rfl) (by simp) ?_
            refine AllReady.cons (o := { dst := some 14, op := _, type := _, pos := _, after := _, guard := _ }) rfl (fun K hK => ?_) AllReady.nil
            go_simp
            refine hK _ _ ?_
            clear hK K
            (try simp only [Act.put, List.setIfInBounds_toArray, List.set_cons_zero, List.set_cons_succ])
            refine wpAny_take (i := 3) (oi := { dst := some 16, op := _, type := _, pos := _, after := _, guard := _ }) (v := ?_) rfl (by kernel_rfl) (by kernel_rfl) (by kernel_rfl) (fun _ _ _ h => h) (Or.inl ⟨by kernel_rfl, ?_⟩) ?_
            rotate_left
            · intro w; go_simp; (try with_reducible rfl)
            (try simp only [Act.put, List.setIfInBounds_toArray, List.set_cons_zero, List.set_cons_succ])
            refine wpAny_ready (rs := [4]) (by kernel_rfl) (by simp) ?_
            refine AllReady.cons (o := { dst := some 17, op := _, type := _, pos := _, after := _, guard := _ }) rfl (fun K hK => ?_) AllReady.nil
            go_simp
            refine hK _ _ ?_
            clear hK K
            (try simp only [Act.put, List.setIfInBounds_toArray, List.set_cons_zero, List.set_cons_succ])
            refine wpAny_ready (rs := [5]) (by kernel_rfl) (by simp) ?_
            refine AllReady.cons (o := { dst := some 18, op := _, type := _, pos := _, after := _, guard := _ }) rfl (fun K hK => ?_) AllReady.nil
            go_simp
            refine (hvj.out _).mono ?_
            rintro e w1 ⟨rfl, hb1⟩
            obtain ⟨hc1, hf1⟩ := bcell hb1
            have z3 := hb1.size
            simp only [World.size_drew] at z3 hc1
            have y1 : W.heap.size < w1.heap.size := by omega
            have y2 : b < w1.heap.size := by omega
            refine hK _ _ ?_
            clear hK K
            (try simp only [Act.put, List.setIfInBounds_toArray, List.set_cons_zero, List.set_cons_succ])
            refine wpAny_take (i := 6) (oi := { dst := some 19, op := _, type := _, pos := _, after := _, guard := _ }) (v := ?_) rfl (by kernel_rfl) (by kernel_rfl) (by kernel_rfl) (fun _ _ _ h => h) (Or.inl ⟨by kernel_rfl, ?_⟩) ?_
            rotate_left
            · intro w; go_simp; (try with_reducible rfl)
            (try simp only [Act.put, List.setIfInBounds_toArray, List.set_cons_zero, List.set_cons_succ])
            refine wpAny_take (i := 7) (oi := { dst := some 20, op := _, type := _, pos := _, after := _, guard := _ }) (v := ?_) rfl (by kernel_rfl) (by kernel_rfl) (by kernel_rfl) (fun _ _ _ h => h) (Or.inl ⟨by kernel_rfl, ?_⟩) ?_
            rotate_left
            · intro w; go_simp; (try with_reducible rfl)
            (try simp only [Act.put, List.setIfInBounds_toArray, List.set_cons_zero, List.set_cons_succ])
            refine wpAny_skips [(8, 21), (9, 22), (10, 23), (11, 24), (12, 25), (13, 26), (14, 27), (15, 28), (16, 29), (17, 30), (18, 31), (19, 32), (20, 33), (21, 34), (22, 35), (23, 36)] (by kernel_rfl) (fun _ _ _ _ _ h => h) _ 1 _ _ (by kernel_rfl) (by kernel_rfl) ?_
            simp only [List.foldl_cons, List.foldl_nil, Act.put, List.setIfInBounds_toArray, List.set_cons_zero, List.set_cons_succ]
            refine wpAny_take (i := 24) (oi := { dst := some 37, op := _, type := _, pos := _, after := _, guard := _ }) (v := ?_) rfl (by kernel_rfl) (by kernel_rfl) (by kernel_rfl) (fun _ _ _ h => h) (Or.inl ⟨by kernel_rfl, ?_⟩) ?_
            rotate_left
            · intro w; go_simp; (try with_reducible rfl)
            (try simp only [Act.put, List.setIfInBounds_toArray, List.set_cons_zero, List.set_cons_succ])
            refine wpAny_done (by kernel_rfl) ?_ _
            go_wp2_with fail
            go_ret
            have hr : r = false := hbad'.out fun hk => by have := (hno.out hk).1; cases this
            subst hr
            exact ⟨rfl, Below.after (Below.drew hbw) hb1 (by simp only [World.size_drew]; omega)⟩
          ·
            go_upto_region 4 with fail
            refine wp_region_any (by kernel_rfl) ?_
            change wpAny _ _ _ _ _ _ _ (World.drew _)
            refine wpAny_take (i := 0) (oi := { dst := some 13, op := _, type := _, pos := _, after := _, guard := _ }) (v := ?_) rfl (by kernel_rfl) (by kernel_rfl) (by kernel_rfl) (fun _ _ _ h => h) (Or.inl ⟨by kernel_rfl, ?_⟩) ?_
            rotate_left
            · intro w; go_simp; (try with_reducible rfl)
            (try simp only [Act.put, List.setIfInBounds_toArray, List.set_cons_zero, List.set_cons_succ])
            refine wpAny_take (i := 2) (oi := { dst := some 15, op := _, type := _, pos := _, after := _, guard := _ }) (v := ?_) rfl (by kernel_rfl) (by kernel_rfl) (by kernel_rfl) (fun _ _ _ h => h) (Or.inl ⟨by kernel_rfl, ?_⟩) ?_
            rotate_left
            · intro w; go_simp; (try with_reducible rfl)
            (try simp only [Act.put, List.setIfInBounds_toArray, List.set_cons_zero, List.set_cons_succ])
            refine wpAny_ready (rs := [1]) (by kernel_rfl) (by simp) ?_
            refine AllReady.cons (o := { dst := some 14, op := _, type := _, pos := _, after := _, guard := _ }) rfl (fun K hK => ?_) AllReady.nil
            go_simp
            refine hK _ _ ?_
            clear hK K
            (try simp only [Act.put, List.setIfInBounds_toArray, List.set_cons_zero, List.set_cons_succ])
            refine wpAny_take (i := 3) (oi := { dst := some 16, op := _, type := _, pos := _, after := _, guard := _ }) (v := ?_) rfl (by kernel_rfl) (by kernel_rfl) (by kernel_rfl) (fun _ _ _ h => h) (Or.inl ⟨by kernel_rfl, ?_⟩) ?_
            rotate_left
            · intro w; go_simp; (try with_reducible rfl)
            (try simp only [Act.put, List.setIfInBounds_toArray, List.set_cons_zero, List.set_cons_succ])
            refine wpAny_ready (rs := [4]) (by kernel_rfl) (by simp) ?_
            refine AllReady.cons (o := { dst := some 17, op := _, type := _, pos := _, after := _, guard := _ }) rfl (fun K hK => ?_) AllReady.nil
            go_simp
            refine hK _ _ ?_
            clear hK K
            (try simp only [Act.put, List.setIfInBounds_toArray, List.set_cons_zero, List.set_cons_succ])
            refine wpAny_ready (rs := [5]) (by kernel_rfl) (by simp) ?_
            refine AllReady.cons (o := { dst := some 18, op := _, type := _, pos := _, after := _, guard := _ }) rfl (fun K hK => ?_) AllReady.nil
            go_simp
            refine (hvj.out _).mono ?_
            rintro e w1 ⟨rfl, hb1⟩
            obtain ⟨hc1, hf1⟩ := bcell hb1
            have z3 := hb1.size
            simp only [World.size_drew] at z3 hc1
            have y1 : W.heap.size < w1.heap.size := by omega
            have y2 : b < w1.heap.size := by omega
            refine hK _ _ ?_
            clear hK K
            (try simp only [Act.put, List.setIfInBounds_toArray, List.set_cons_zero, List.set_cons_succ])
            refine wpAny_take (i := 6) (oi := { dst := some 19, op := _, type := _, pos := _, after := _, guard := _ }) (v := ?_) rfl (by kernel_rfl) (by kernel_rfl) (by kernel_rfl) (fun _ _ _ h => h) (Or.inl ⟨by kernel_rfl, ?_⟩) ?_
            rotate_left
            · intro w; go_simp; (try with_reducible rfl)
            (try simp only [Act.put, List.setIfInBounds_toArray, List.set_cons_zero, List.set_cons_succ])
            refine wpAny_take (i := 7) (oi := { dst := some 20, op := _, type := _, pos := _, after := _, guard := _ }) (v := ?_) rfl (by kernel_rfl) (by kernel_rfl) (by kernel_rfl) (fun _ _ _ h => h) (Or.inl ⟨by kernel_rfl, ?_⟩) ?_
            rotate_left
            · intro w; go_simp; (try with_reducible rfl)
            (try simp only [Act.put, List.setIfInBounds_toArray, List.set_cons_zero, List.set_cons_succ])
            refine wpAny_take (i := 8) (oi := { dst := some 21, op := _, type := _, pos := _, after := _, guard := _ }) (v := ?_) rfl (by kernel_rfl) (by kernel_rfl) (by kernel_rfl) (fun _ _ _ h => h) (Or.inl ⟨by kernel_rfl, ?_⟩) ?_
            rotate_left
            · intro w; go_simp; (try with_reducible rfl)
            (try simp only [Act.put, List.setIfInBounds_toArray, List.set_cons_zero, List.set_cons_succ])
            refine wpAny_take (i := 9) (oi := { dst := some 22, op := _, type := _, pos := _, after := _, guard := _ }) (v := ?_) rfl (by kernel_rfl) (by kernel_rfl) (by kernel_rfl) (fun _ _ _ h => h) (Or.inl ⟨by kernel_rfl, ?_⟩) ?_
            rotate_left
            · intro w; go_simp; (try with_reducible rfl)
            (try simp only [Act.put, List.setIfInBounds_toArray, List.set_cons_zero, List.set_cons_succ])
            refine wpAny_take (i := 10) (oi := { dst := some 23, op := _, type := _, pos := _, after := _, guard := _ }) (v := ?_) rfl (by kernel_rfl) (by kernel_rfl) (by kernel_rfl) (fun _ _ _ h => h) (Or.inl ⟨by kernel_rfl, ?_⟩) ?_
            rotate_left
            · intro w; go_simp; (try with_reducible rfl)
            (try simp only [Act.put, List.setIfInBounds_toArray, List.set_cons_zero, List.set_cons_succ])
            refine wpAny_skips [(11, 24), (12, 25), (13, 26), (14, 27), (15, 28), (16, 29), (17, 30), (18, 31), (19, 32), (20, 33), (21, 34), (22, 35)] (by kernel_rfl) (fun _ _ _ _ _ h => h) _ 2 _ _ (by kernel_rfl) (by kernel_rfl) ?_
            simp only [List.foldl_cons, List.foldl_nil, Act.put, List.setIfInBounds_toArray, List.set_cons_zero, List.set_cons_succ]
            refine wpAny_take (i := 23) (oi := { dst := some 36, op := _, type := _, pos := _, after := _, guard := _ }) (v := ?_) rfl (by kernel_rfl) (by kernel_rfl) (by kernel_rfl) (fun _ _ _ h => h) (Or.inl ⟨by kernel_rfl, ?_⟩) ?_
            rotate_left
            · intro w; go_simp; (try with_reducible rfl)
            (try simp only [Act.put, List.setIfInBounds_toArray, List.set_cons_zero, List.set_cons_succ])
            refine wpAny_take (i := 24) (oi := { dst := some 37, op := _, type := _, pos := _, after := _, guard := _ }) (v := ?_) rfl (by kernel_rfl) (by kernel_rfl) (by kernel_rfl) (fun _ _ _ h => h) (Or.inl ⟨by kernel_rfl, ?_⟩) ?_
            rotate_left
            · intro w; go_simp; (try with_reducible rfl)
            (try simp only [Act.put, List.setIfInBounds_toArray, List.set_cons_zero, List.set_cons_succ])
            refine wpAny_done (by kernel_rfl) ?_ _
            go_wp2_with fail
            exact ⟨⟨0 + 1, by simp, by omega, hst.out rfl (fun h => by omega), (kb.drew).kept hb1, Below.after (Below.drew hbw) hb1 (by simp only [World.size_drew]; omega)⟩, by simp [intOf]; omega⟩
      · obtain rfl : j = ks.length := by omega
        have hlz : ¬((ks.length : Int) < ks.length) := by omega
        go_wp2
        go_quiet (fail)
        go_wp2_with (first | (go_at_call 14; refine (hv1.out _).mono ?_; rintro e w1 ⟨rfl, hb1⟩))
        all_goals go_ret
        all_goals refine ⟨congrArg (fun b => Ending.returned (Value.bool b)) (Bool.eq_iff_iff.2 (Iff.trans ?_ hal'.out.symm)), ?_⟩
        all_goals first
          | exact Below.trans hbw (below_drewN _ _ _)
          | exact Below.after (Below.trans hbw (below_drewN _ _ _)) hb1 (by change W.heap.size ≤ wr.heap.size; omega)
          | skip
        all_goals clear hv hv1 hks hbad'
        all_goals try (have e := (beq_iff_eq (a := vk) (b := 1)).1 (by assumption); subst e)
        all_goals try (have e := (beq_iff_eq (a := vk) (b := 2)).1 (by assumption); subst e)
        all_goals try (have e := (beq_iff_eq (a := vk) (b := 3)).1 (by assumption); subst e)
        all_goals try (have e := (beq_iff_eq (a := vk) (b := 4)).1 (by assumption); subst e)
        all_goals try (have e := (beq_iff_eq (a := vk) (b := 5)).1 (by assumption); subst e)
        all_goals try (have e := (beq_iff_eq (a := vk) (b := 6)).1 (by assumption); subst e)
        all_goals try (have f1 := (beq_eq_false_iff_ne (a := vk) (b := 1)).1 (by assumption))
        all_goals try (have f2 := (beq_eq_false_iff_ne (a := vk) (b := 2)).1 (by assumption))
        all_goals try (have f3 := (beq_eq_false_iff_ne (a := vk) (b := 3)).1 (by assumption))
        all_goals try (have f4 := (beq_eq_false_iff_ne (a := vk) (b := 4)).1 (by assumption))
        all_goals try (have f5 := (beq_eq_false_iff_ne (a := vk) (b := 5)).1 (by assumption))
        all_goals try (have f6 := (beq_eq_false_iff_ne (a := vk) (b := 6)).1 (by assumption))
        all_goals first
          | (simp [*]; done)
          | (simp [*]; omega)
          | (have hok := hok'.out; simp [*]; omega)
          | trace_state

end Go.Proofs.YtmleipmilmeclaaDoor
