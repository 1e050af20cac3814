/- Walk: the reference's Object, of pairs that lie. -/
import Derived.Test.YtmleipmilmeclaaDoorXTj
import Derived.Test.YtmleipmilmeclaaDoorXTi
namespace Go.Proofs.YtmleipmilmeclaaDoor
open Go.RowKit Go.Lib
attribute [local go_sem ↓] Go.wp_at_zero Go.wp_at_succ
attribute [local go_sem] slice_hi37 slice_hi36 slice_lo37 slice_lo36

theorem cut1 (q : Option Addr) (c i : Nat) : cutA q c i 1 = if c = i then q else Option.map (fun x => x.add i) q := by unfold cutA; rw [Nat.mul_one]

structure QRel (W : World) (ps : List PV) (k : Nat) (L : List PV) (kv pv : Value) (wr : World) : Prop where
  rb : Blk wr W.heap.size zero5.cs 39
  vb : Blk wr (W.heap.size + 1) #[.int .i64 6, .int .i64 0, .string ⟨#[]⟩, pv, kv] 39
  T : TwoR (W.heap.size + 1 + 1) wr 9 1 kv k (keyC L) 39 5 pv k (valC L)
  bl : Below W.heap.size W wr
  pm : L.Perm (ps.take k)
  pw : L.Pairwise fun a b => KL a.key b.key

theorem own_base {w : World} {base base' : Nat} {e : TypeId} {size : Nat} {v : Value} {n : Nat} {xs : List Value} (h : w.ownsRow base e size v n xs) (hb : base' ≤ base) : w.ownsRow base' e size v n xs :=
  ⟨h.1, h.2.imp id fun ⟨g, cap, cur, h1, h2, h3⟩ => ⟨g, cap, cur, h1, Nat.le_trans hb h2, h3⟩⟩

theorem keyC_ins (L : List PV) (x : PV) (a : Nat) : keyC (L.take a ++ x :: L.drop a) = (keyC L).take (a * 1) ++ [.string x.key] ++ (keyC L).drop (a * 1) := by
  unfold keyC
  rw [Nat.mul_one, List.map_append, List.map_cons, List.map_take, List.map_drop, List.append_assoc]
  rfl
theorem valC_ins (L : List PV) (x : PV) (a : Nat) (ha : a ≤ L.length) : valC (L.take a ++ x :: L.drop a) = (valC L).take (a * 5) ++ c5 x.v ++ (valC L).drop (a * 5) := by
  unfold valC
  rw [flat_takeL _ 5 (fun x => c5_len _) L a ha, flat_drop _ 5 (fun x => c5_len _) L a ha, List.flatMap_append, List.flatMap_cons, List.append_assoc]

theorem keyC_one (L : List PV) : ∀ u ∈ keyC L, u.oneCell' = true := fun u hu => by
  obtain ⟨x, _, rfl⟩ := List.mem_map.1 hu; rfl
theorem valC_one (L : List PV) : ∀ u ∈ valC L, u.oneCell' = true := fun u hu => by
  obtain ⟨x, _, hx⟩ := List.mem_flatMap.1 hu; exact c5_one _ u hx

theorem QRel.next {W wq wc wd : World} {ps : List PV} {k a : Nat} {L : List PV} {kv pv kv' pv' : Value} {x : PV} (h : QRel W ps k L kv pv wq) (hx : ps[k]? = some x) (ha : a ≤ k)
    (h1 : ∀ j (_ : j < a) (hj : j < L.length), KL L[j].key x.key) (h2 : ∀ h : a < L.length, ¬ KL L[a].key x.key ∧ L[a].key ≠ x.key)
    (o1 : wc.ownsRow wq.heap.size 9 1 kv' (k + 1) (keyC (L.take a ++ x :: L.drop a))) (L1 : Below wq.heap.size wq wc)
    (o2 : wd.ownsRow wc.heap.size 39 5 pv' (k + 1) (valC (L.take a ++ x :: L.drop a))) (L2 : Below wc.heap.size wc wd) :
    QRel W ps (k + 1) (L.take a ++ x :: L.drop a) kv' pv' ((wd.setCell ⟨W.heap.size + 1, 4, none⟩ kv').setCell ⟨W.heap.size + 1, 3, none⟩ pv') := by
  have hvl := h.vb.lt
  have hlq : Below wq.heap.size wq wd := Below.after L1 L2 L1.size
  have hkl : k < ps.length := (List.getElem?_eq_some_iff.1 hx).1
  have hll : L.length = k := by rw [h.pm.length_eq, List.length_take]; omega
  have z1 := h.bl.size
  have z2 := L1.size
  refine ⟨Blk.off (Blk.off (h.rb.kept hlq) _ (by omega)) _ (by omega), Blk.set (Blk.set (h.vb.kept hlq) 4 kv') 3 pv', ?_, Below.set (Below.set (h.bl.trans (hlq.mono (by omega))) (by omega) _) (by omega) _, ?_, ?_⟩
  · refine TwoR.set (TwoR.set ⟨own_base (own_after o1 L2) (by omega), own_base o2 (by omega), fun b hb hb2 => ?_⟩ (by omega) _ _) (by omega) _ _
    have := (own_lt o1 hb).2
    have := (own_lt o2 hb2).1
    omega
  · refine (ins_perm L x a).trans ?_
    rw [List.take_succ_eq_append_getElem hkl]
    have e : ps[k] = x := by simpa [hkl] using hx
    rw [e]
    exact (List.Perm.cons x h.pm).trans (List.perm_append_singleton x _).symm
  · exact ins_sorted PV.key h.pw (by omega) h1 h2

set_option maxRecDepth 1000000 in
set_option maxHeartbeats 16000000 in
theorem robject_lay {W : World} {h : Nat} {tr : V5 → T} (p : Option Addr) (c : Nat) (ps : List PV) (n : Nat) (hn : ps.length = n)
    (hP : 0 < n → ∃ b o, p = some ⟨b, o, none⟩ ∧ b < W.heap.size ∧ ∀ i (hi : i < ps.length), ∀ j, j < 6 → W.cell? ⟨b, o + i * 6 + j, none⟩ = (encP ps[i])[j]?)
    (hv : ∀ x ∈ ps, Lay W h x.v (tr x.v)) (hks : ∀ x ∈ ps, x.key.size < 1099511627776) (hnb : n < 1073741824) :
    Calls Tryd.prog 18 #[.slice p n c] W fun e w' => ObjOut h tr ps e w' ∧ Below W.heap.size W w' := by
  have hv' := Lib.hid hv
  have hks' := Lib.hid hks
  have hP' := Lib.hid hP
  clear hv hks hP
  go_enter Tryd.func18, Tryd.ntmps18
  go_wp2_with fail
  go_loopw [5] (fun i wr => ∃ (k : Nat) (L : List PV) (kv pv : Value), i = .int .i64 (k : Int) ∧ k ≤ n ∧ QRel W ps k L kv pv wr) (fun i _ => n - (intOf i).toNat)
  case atStart =>
    refine ⟨0, [], .slice none 0 0, .slice none 0 0, rfl, by omega, ?_, ?_, ⟨World.ownsRow_nil _ _ _ _, World.ownsRow_nil _ _ _ _, fun b hb => by simp [Value.ownBlock] at hb⟩, by go_grown, by simp, List.Pairwise.nil⟩
    · exact Blk.alloc (Blk.new _ _ _) _
    · exact Blk.new' (by simp)
  case round =>
    obtain ⟨k, L, kv, pv, rfl, hk, hrel⟩ := hrel
    have hQ := Lib.hid hrel
    obtain ⟨rbk, vbk, T0, bl, pm, pw⟩ := hrel
    have hll : L.length = k := by rw [pm.length_eq, List.length_take]; omega
    have zr := bl.size
    have zb := vbk.lt
    by_cases hlt : k < n
    · have hlz : (k : Int) < n := by omega
      obtain ⟨b, o, rfl, hlb, hpc⟩ := hP'.out (by omega)
      obtain ⟨x, hx⟩ : ∃ x, ps[k]? = some x := ⟨ps[k]'(by omega), by rw [List.getElem?_eq_getElem (by omega)]⟩
      have hcell : ∀ j, j < 6 → wr.cell? ⟨b, o + k * 6 + j, none⟩ = (encP x)[j]? := fun j hj => by
        rw [bl.cell (p := ⟨b, o + k * 6 + j, none⟩) hlb, hpc k (by omega) j hj]
        have : ps[k]'(by omega) = x := by
          obtain ⟨_, h2⟩ := List.getElem?_eq_some_iff.1 hx
          exact h2
        rw [this]
      have hxk := Lib.hid hx
      obtain ⟨key, ⟨vk, vn, vs, vp, vnp, vcp, vq, vnq, vcq⟩⟩ := x
      have y0 := hcell 0 (by omega)
      have y1 := hcell 1 (by omega)
      have y2 := hcell 2 (by omega)
      have y3 := hcell 3 (by omega)
      have y4 := hcell 4 (by omega)
      have y5 := hcell 5 (by omega)
      simp only [encP, Nat.add_zero, List.getElem?_cons_zero, List.getElem?_cons_succ] at y0 y1 y2 y3 y4 y5
      clear hcell hx hpc
      obtain ⟨kq, kc, rfl⟩ := own_slice T0.o1
      obtain ⟨pq, pc, rfl⟩ := own_slice T0.o2
      have x3 := vbk.cell 3
      have x4 := vbk.cell 4
      simp at x3 x4
      have hT0 := Lib.hid T0
      have hkk := own_cap T0.o1
      have hpp := own_cap T0.o2
      have hbr := Lib.hid (Below.refl wr.heap.size wr)
      clear T0 pm pw rbk bl vbk
      go_wp2_with fail
      go_loopw [6] (fun v wx => ∃ (a q : Nat), v = .int .i64 (a : Int) ∧ a ≤ k ∧ Aside (∀ j (_ : j < a) (hj : j < L.length), KL L[j].key key) ∧ wx = wr.drewN q) (fun v _ => k - (intOf v).toNat)
      case atStart => exact ⟨0, 0, rfl, by omega, (fun j hj => by omega), rfl⟩
      case round =>
        obtain ⟨a, q, rfl, hak, hless, rfl⟩ := hrel
        go_upto_region 6 with fail
        go_cut [33] (fun v wx => ∃ bb q', v = .bool bb ∧ (bb = true → a < k ∧ ∀ hj : a < L.length, KL L[a].key key) ∧ (bb = false → ∀ hj : a < L.length, ¬ KL L[a].key key) ∧ wx = wr.drewN q')
        case first =>
          by_cases hal : a < k
          · have halz : (a : Int) < (k : Int) := by omega
            obtain ⟨gk, capk, e, _, hglt⟩ := hT0.out.o1.form (by omega)
            simp only [Value.slice.injEq, true_and] at e
            obtain ⟨rfl, rfl⟩ := e
            have hca : wr.cell? ⟨gk, a, none⟩ = some (.string (L[a]'(by omega)).key) := by
              rw [hT0.out.o1.cellAt a (by omega)]
              simp [keyC, List.getElem?_eq_getElem (show a < L.length by omega)]
            obtain ⟨lk, hlk⟩ : ∃ lk, lk = (L[a]'(by omega)).key := ⟨_, rfl⟩
            rw [← hlk] at hca
            have hlk' := Lib.hid hlk
            clear hlk
            obtain ⟨bb, hbb⟩ : ∃ bb, Op.bytesLess lk.toList key.toList = bb := ⟨_, rfl⟩
            have hbb' := Lib.hid hbb
            go_quiet (fail)
            go_wp2_with fail
            go_meet
            refine ⟨bb, q + nq, rfl, fun h => ⟨hal, fun hj => ?_⟩, fun h hj => ?_, by first | rfl | rw [World.drewN_drewN]⟩
            · rw [← hlk'.out]; exact hbb'.out.trans h
            · rw [← hlk'.out]; intro hkl; unfold KL at hkl; rw [hbb'.out, h] at hkl; cases hkl
          · have halz : ¬((a : Int) < (k : Int)) := by omega
            go_quiet (fail)
            go_wp2_with fail
            go_meet
            exact ⟨false, q + nq, rfl, (fun h => by cases h), (fun _ hj => by omega), by first | rfl | rw [World.drewN_drewN]⟩
        case rest =>
          obtain ⟨bb, q', rfl, hyes, hno, rfl⟩ := hcut
          cases bb
          · have hno' := Lib.hid (hno rfl)
            clear hyes hno
            go_upto_region 8 with fail
            go_cut [53] (fun v wx => ∃ bb q', v = .bool bb ∧ (bb = true → ¬ (ps.map PV.key).Nodup) ∧ (bb = false → ∀ hj : a < L.length, L[a].key ≠ key) ∧ wx = wr.drewN q')
            case first =>
              by_cases hal : a < k
              · have halz : (a : Int) < (k : Int) := by omega
                obtain ⟨gk, capk, e, _, hglt⟩ := hT0.out.o1.form (by omega)
                simp only [Value.slice.injEq, true_and] at e
                obtain ⟨rfl, rfl⟩ := e
                have hca : wr.cell? ⟨gk, a, none⟩ = some (.string (L[a]'(by omega)).key) := by
                  rw [hT0.out.o1.cellAt a (by omega)]
                  simp [keyC, List.getElem?_eq_getElem (show a < L.length by omega)]
                obtain ⟨lk, hlk⟩ : ∃ lk, lk = (L[a]'(by omega)).key := ⟨_, rfl⟩
                rw [← hlk] at hca
                have hdd := Lib.hid (show lk = key → ¬ (ps.map PV.key).Nodup from fun e => by
                  obtain ⟨hxl, hxe⟩ := List.getElem?_eq_some_iff.1 hxk.out
                  exact not_nodup_of_prefix PV.key hxl hQ.out.pm (List.getElem_mem (l := L) (n := a) (by omega)) (by rw [← hlk, e, hxe]))
                have hlk' := Lib.hid hlk
                clear hlk
                have hq := keys_beq lk key
                go_quiet (fail)
                go_wp2_with fail
                go_meet
                refine ⟨_, q' + nq, rfl, (fun h => hdd.out (by simpa using h)), (fun h hj => ?_), by first | rfl | rw [World.drewN_drewN]⟩
                rw [← hlk'.out]
                simpa using h
              · have halz : ¬((a : Int) < (k : Int)) := by omega
                go_quiet (fail)
                go_wp2_with fail
                go_meet
                exact ⟨false, q' + nq, rfl, (fun h => by cases h), (fun _ hj => by omega), by first | rfl | rw [World.drewN_drewN]⟩
            case rest =>
              obtain ⟨bb, q2, rfl, hdup, hap, rfl⟩ := hcut
              cases bb
              · have hap' := Lib.hid (hap rfl)
                clear hap hdup
                have hQ2 := Lib.hid hQ.out
                have gK : Aside (QRel W ps k L (.slice kq k kc) (.slice pq k pc) (wr.drewN q2)) := ⟨hQ.out.rb, hQ.out.vb, ⟨hQ.out.T.o1, hQ.out.T.o2, hQ.out.T.ne⟩, ⟨hQ.out.bl.os, hQ.out.bl.tape, hQ.out.bl.output, hQ.out.bl.size, hQ.out.bl.block⟩, hQ.out.pm, hQ.out.pw⟩
                have zq : W.heap.size + 1 < (wr.drewN q2).heap.size := gK.out.vb.lt
                have w0' : (wr.drewN q2).cell? ⟨b, o + k * 6, none⟩ = some (.string key) := y0
                have w1' : (wr.drewN q2).cell? ⟨b, o + k * 6 + 1, none⟩ = some (.int .i64 vk) := y1
                have w2' : (wr.drewN q2).cell? ⟨b, o + k * 6 + 2, none⟩ = some (.int .i64 vn) := y2
                have w3' : (wr.drewN q2).cell? ⟨b, o + k * 6 + 3, none⟩ = some (.string vs) := y3
                have w4' : (wr.drewN q2).cell? ⟨b, o + k * 6 + 4, none⟩ = some (.slice vp vnp vcp) := y4
                have w5' : (wr.drewN q2).cell? ⟨b, o + k * 6 + 5, none⟩ = some (.slice vq vnq vcq) := y5
                have x3' : (wr.drewN q2).cell? ⟨W.heap.size + 1, 3, none⟩ = some (.slice pq k pc) := x3
                have x4' : (wr.drewN q2).cell? ⟨W.heap.size + 1, 4, none⟩ = some (.slice kq k kc) := x4
                clear y0 y1 y2 y3 y4 y5 x3 x4 hQ2 hT0 hbr
                go_upto_region 12 with fail
                clear hQ zr zb
                generalize wr.drewN q2 = wq at *
                obtain ⟨i0, hin, hz0, hz1, hz2⟩ := info_parts info39
                obtain ⟨i9, hin9, hz90, hz91, hz92⟩ := info_parts info9
                have hlbq : b < wq.heap.size := by have := gK.out.bl.size; omega
                have hka : a ≤ kc := by omega
                have hpa : a ≤ pc := by omega
                go_cut [7] (fun v (wx : World) => wx.ownsRow wq.heap.size 9 1 v (k + 1) (keyC (L.take a ++ ⟨key, ⟨vk, vn, vs, vp, vnp, vcp, vq, vnq, vcq⟩⟩ :: L.drop a)) ∧ Below wq.heap.size wq wx)
                case first =>
                  have L0 : Below wq.heap.size wq wq.drew := Below.drew (Below.refl _ _)
                  have hS2 := Lib.hid (show ∀ w', Below wq.heap.size wq w' → w'.cell? ⟨W.heap.size + 1, 4, none⟩ = some (.slice kq k kc) ∧ w'.cell? ⟨b, o + k * 6, none⟩ = some (.string key) from fun w' hb => ⟨(hb.cell (p := ⟨W.heap.size + 1, 4, none⟩) zq).trans x4', (hb.cell (p := ⟨b, o + k * 6, none⟩) hlbq).trans w0'⟩)
                  have hlt1 := Lib.hid (fun w' (hb : Below wq.heap.size wq w') => (own_lies_take gK.out.T.o1 hak).below hb)
                  have hlt2 := Lib.hid (fun w' (hb : Below wq.heap.size wq w') => (cut1 kq kc a ▸ (own_lies_drop gK.out.T.o1 hak).below hb : Lies w' 1 (if kc = a then kq else Option.map (fun x => x.add a) kq) (k - a) ((keyC L).drop (a * 1))))
                  have hone1 := Lib.hid (show ∀ u ∈ (keyC L).take (a * 1), u.oneCell' = true from fun u hu => keyC_one L u (List.mem_of_mem_take hu))
                  have hone2 := Lib.hid (show ∀ u ∈ (keyC L).drop (a * 1), u.oneCell' = true from fun u hu => keyC_one L u (List.mem_of_mem_drop hu))
                  have hfin := Lib.hid (show ∀ v (wx : World), wx.ownsRow wq.heap.size 9 1 v (a + 1 + (k - a)) ((keyC L).take (a * 1) ++ [.string key] ++ (keyC L).drop (a * 1)) → wx.ownsRow wq.heap.size 9 1 v (k + 1) (keyC (L.take a ++ ⟨key, ⟨vk, vn, vs, vp, vnp, vcp, vq, vnq, vcq⟩⟩ :: L.drop a)) from fun v wx h => by
                    rw [keyC_ins, show k + 1 = a + 1 + (k - a) by omega]
                    exact h)
                  clear w0' w1' w2' w3' w4' w5' x3' x4'
                  refine wp_region_z (S := fun _ => True) (S2 := fun w' => w'.cell? ⟨W.heap.size + 1, 4, none⟩ = some (.slice kq k kc) ∧ w'.cell? ⟨b, o + k * 6, none⟩ = some (.string key)) 99 (by kernel_rfl) trivial (hS2.out _ L0) (fun hHeld hTwo => ?_)
                  refine wpAnyZ_take2 (i := 0) (oi := { dst := some 55, op := _, type := _, pos := _, after := _, guard := _ }) (v := ?_) rfl (by kernel_rfl) (by kernel_rfl) (by kernel_rfl) (by kernel_rfl) (fun _ _ _ h => h) (Or.inl ⟨by kernel_rfl, ?_⟩) ⟨hTwo, .inr hHeld⟩ ?_
                  rotate_left
                  · intro w hSw; (try dsimp only at hSw); go_simp; (try with_reducible rfl)
                  (try simp only [Act.put, List.setIfInBounds_toArray, List.set_cons_zero, List.set_cons_succ])
                  refine wpAnyZ_take2 (i := 1) (oi := { dst := some 56, op := _, type := _, pos := _, after := _, guard := _ }) (v := ?_) rfl (by kernel_rfl) (by kernel_rfl) (by kernel_rfl) (by kernel_rfl) (fun _ _ _ h => h) (Or.inl ⟨by kernel_rfl, ?_⟩) ⟨hTwo, .inr hHeld⟩ ?_
                  rotate_left
                  · intro w hSw; (try dsimp only at hSw); go_simp; (try with_reducible rfl)
                  (try simp only [Act.put, List.setIfInBounds_toArray, List.set_cons_zero, List.set_cons_succ])
                  refine wpAnyZ_take2 (i := 2) (oi := { dst := some 57, op := _, type := _, pos := _, after := _, guard := _ }) (v := ?_) rfl (by kernel_rfl) (by kernel_rfl) (by kernel_rfl) (by kernel_rfl) (fun _ _ _ h => h) (Or.inl ⟨by kernel_rfl, ?_⟩) ⟨hTwo, .inr hHeld⟩ ?_
                  rotate_left
                  · intro w hSw; (try dsimp only at hSw); go_simp; (try with_reducible rfl)
                  (try simp only [Act.put, List.setIfInBounds_toArray, List.set_cons_zero, List.set_cons_succ])
                  refine wpAnyZ_take2 (i := 3) (oi := { dst := some 58, op := _, type := _, pos := _, after := _, guard := _ }) (v := ?_) rfl (by kernel_rfl) (by kernel_rfl) (by kernel_rfl) (by kernel_rfl) (fun _ _ _ h => h) (Or.inl ⟨by kernel_rfl, ?_⟩) ⟨hTwo, .inr hHeld⟩ ?_
                  rotate_left
                  · intro w hSw; (try dsimp only at hSw); go_simp; (try with_reducible rfl)
                  (try simp only [Act.put, List.setIfInBounds_toArray, List.set_cons_zero, List.set_cons_succ])
                  refine wpAnyZ_take2 (i := 4) (oi := { dst := some 59, op := _, type := _, pos := _, after := _, guard := _ }) (v := ?_) rfl (by kernel_rfl) (by kernel_rfl) (by kernel_rfl) (by kernel_rfl) (fun _ _ _ h => h) (Or.inl ⟨by kernel_rfl, ?_⟩) ⟨hTwo, .inr hHeld⟩ ?_
                  rotate_left
                  · intro w hSw; (try dsimp only at hSw); go_simp; (try with_reducible rfl)
                  (try simp only [Act.put, List.setIfInBounds_toArray, List.set_cons_zero, List.set_cons_succ])
                  refine wpAnyZ_take2 (i := 6) (oi := { dst := some 61, op := _, type := _, pos := _, after := _, guard := _ }) (v := ?_) rfl (by kernel_rfl) (by kernel_rfl) (by kernel_rfl) (by kernel_rfl) (fun _ _ _ h => h) (Or.inl ⟨by kernel_rfl, ?_⟩) ⟨hTwo, .inr hHeld⟩ ?_
                  rotate_left
                  · intro w hSw; (try dsimp only at hSw); go_simp; (try with_reducible rfl)
                  (try simp only [Act.put, List.setIfInBounds_toArray, List.set_cons_zero, List.set_cons_succ])
                  refine wpAnyZ_take2 (i := 7) (oi := { dst := some 62, op := _, type := _, pos := _, after := _, guard := _ }) (v := ?_) rfl (by kernel_rfl) (by kernel_rfl) (by kernel_rfl) (by kernel_rfl) (fun _ _ _ h => h) (Or.inl ⟨by kernel_rfl, ?_⟩) ⟨hTwo, .inr hHeld⟩ ?_
                  rotate_left
                  · intro w hSw; (try dsimp only at hSw); go_simp; (try with_reducible rfl)
                  (try simp only [Act.put, List.setIfInBounds_toArray, List.set_cons_zero, List.set_cons_succ])
                  refine wpAnyZ_take2 (i := 8) (oi := { dst := some 63, op := _, type := _, pos := _, after := _, guard := _ }) (v := ?_) rfl (by kernel_rfl) (by kernel_rfl) (by kernel_rfl) (by kernel_rfl) (fun _ _ _ h => h) (Or.inl ⟨by kernel_rfl, ?_⟩) ⟨hTwo, .inr hHeld⟩ ?_
                  rotate_left
                  · intro w hSw; (try dsimp only at hSw); go_simp; (try with_reducible rfl)
                  (try simp only [Act.put, List.setIfInBounds_toArray, List.set_cons_zero, List.set_cons_succ])
                  refine wpAnyZ_take2 (i := 9) (oi := { dst := some 64, op := _, type := _, pos := _, after := _, guard := _ }) (v := ?_) rfl (by kernel_rfl) (by kernel_rfl) (by kernel_rfl) (by kernel_rfl) (fun _ _ _ h => h) (Or.inl ⟨by kernel_rfl, ?_⟩) ⟨hTwo, .inr hHeld⟩ ?_
                  rotate_left
                  · intro w hSw; (try dsimp only at hSw); go_simp; (try with_reducible rfl)
                  (try simp only [Act.put, List.setIfInBounds_toArray, List.set_cons_zero, List.set_cons_succ])
                  refine wpAnyZ_take2 (i := 10) (oi := { dst := some 65, op := _, type := _, pos := _, after := _, guard := _ }) (v := ?_) rfl (by kernel_rfl) (by kernel_rfl) (by kernel_rfl) (by kernel_rfl) (fun _ _ _ h => h) (Or.inl ⟨by kernel_rfl, ?_⟩) ⟨hTwo, .inr hHeld⟩ ?_
                  rotate_left
                  · intro w hSw; (try dsimp only at hSw); go_simp; (try with_reducible rfl)
                  (try simp only [Act.put, List.setIfInBounds_toArray, List.set_cons_zero, List.set_cons_succ])
                  refine wpAnyZ_take2 (i := 13) (oi := { dst := some 68, op := _, type := _, pos := _, after := _, guard := _ }) (v := ?_) rfl (by kernel_rfl) (by kernel_rfl) (by kernel_rfl) (by kernel_rfl) (fun _ _ _ h => h) (Or.inl ⟨by kernel_rfl, ?_⟩) ⟨hTwo, .inr hHeld⟩ ?_
                  rotate_left
                  · intro w hSw; (try dsimp only at hSw); go_simp; (try with_reducible rfl)
                  (try simp only [Act.put, List.setIfInBounds_toArray, List.set_cons_zero, List.set_cons_succ])
                  refine wpAnyZ_take2 (i := 14) (oi := { dst := some 69, op := _, type := _, pos := _, after := _, guard := _ }) (v := ?_) rfl (by kernel_rfl) (by kernel_rfl) (by kernel_rfl) (by kernel_rfl) (fun _ _ _ h => h) (Or.inl ⟨by kernel_rfl, ?_⟩) ⟨hTwo, .inr hHeld⟩ ?_
                  rotate_left
                  · intro w hSw; (try dsimp only at hSw); go_simp; (try with_reducible rfl)
                  (try simp only [Act.put, List.setIfInBounds_toArray, List.set_cons_zero, List.set_cons_succ])
                  refine wpAnyZ_take2 (i := 15) (oi := { dst := some 70, op := _, type := _, pos := _, after := _, guard := _ }) (v := ?_) rfl (by kernel_rfl) (by kernel_rfl) (by kernel_rfl) (by kernel_rfl) (fun _ _ _ h => h) (Or.inl ⟨by kernel_rfl, ?_⟩) ⟨hTwo, .inr hHeld⟩ ?_
                  rotate_left
                  · intro w hSw; (try dsimp only at hSw); go_simp; (try with_reducible rfl)
                  (try simp only [Act.put, List.setIfInBounds_toArray, List.set_cons_zero, List.set_cons_succ])
                  refine wpAnyZ_take2 (i := 16) (oi := { dst := some 71, op := _, type := _, pos := _, after := _, guard := _ }) (v := ?_) rfl (by kernel_rfl) (by kernel_rfl) (by kernel_rfl) (by kernel_rfl) (fun _ _ _ h => h) (Or.inl ⟨by kernel_rfl, ?_⟩) ⟨hTwo, .inr hHeld⟩ ?_
                  rotate_left
                  · intro w hSw; (try dsimp only at hSw); go_simp; (try with_reducible rfl)
                  (try simp only [Act.put, List.setIfInBounds_toArray, List.set_cons_zero, List.set_cons_succ])
                  refine wpAnyZ_ready (rs := [5, 11]) (by kernel_rfl) (by simp) ?_
                  refine AllReadyZ.cons (o := { dst := some 60, op := _, type := _, pos := _, after := _, guard := _ }) rfl ?_ ?_
                  · intro K hK
                    refine step_append_row (by rfl) (.tmp 55) (.tmp 59) 37 (by rfl) wq.heap.size 9 i9 _ 1 16 Tryd.underlying37 hin9 hz90 hz91 hz92 rfl (by decide) (.slice none 0 0) 0 [] (by rfl) (World.ownsRow_nil _ _ _ _) kq a kc _ (by rfl) (hlt1.out _ L0) hone1.out (by unfold maxLen; omega) (by omega) L0.size ?_
                    intro v1 wa hown1 hgrow1
                    rw [Nat.zero_add, List.nil_append] at hown1
                    have La := below_own L0 (World.ownsRow_nil _ _ 9 1) hgrow1
                    refine hK.out _ _ trivial (hS2.out _ La) (fun hHeld hTwo => ?_)
                    clear hK K
                    (try simp only [Act.put, List.setIfInBounds_toArray, List.set_cons_zero, List.set_cons_succ])
                    refine wpAnyZ_ready (rs := [11]) (by kernel_rfl) (by simp) ?_
                    refine AllReadyZ.cons (o := { dst := some 66, op := _, type := _, pos := _, after := _, guard := _ }) rfl ?_ ?_
                    · intro K hK
                      go_simp
                      have kb : Blk (wa.alloc (.cells #[.string key] 9)) wa.heap.size #[.string key] 9 := Blk.new _ _ _
                      replace hown1 := hown1.alloc (.cells #[.string key] 9)
                      have Lb := Below.alloc La La.size (.cells #[.string key] 9)
                      refine hK.out _ _ trivial (hS2.out _ Lb) (fun hHeld hTwo => ?_)
                      clear hK K
                      (try simp only [Act.put, List.setIfInBounds_toArray, List.set_cons_zero, List.set_cons_succ])
                      refine wpAnyZ_ready (rs := [12]) (by kernel_rfl) (by simp) ?_
                      refine AllReadyZ.cons (o := { dst := some 67, op := _, type := _, pos := _, after := _, guard := _ }) rfl ?_ ?_
                      · intro K hK
                        refine step_append_row (by rfl) (.tmp 60) (.tmp 66) 37 (by rfl) wq.heap.size 9 i9 _ 1 16 Tryd.underlying37 hin9 hz90 hz91 hz92 rfl (by decide) v1 a _ (by rfl) hown1 (some ⟨wa.heap.size, 0, none⟩) 1 1 [.string key] (by rfl) (.inr ⟨_, rfl, by omega, rfl, World.news_of_block kb⟩) (by simp [Value.oneCell']) (by unfold maxLen; omega) (by omega) Lb.size ?_
                        intro v2 wb hown2 hgrow2
                        have Lc := below_own Lb hown1 hgrow2
                        refine hK.out _ _ trivial (hS2.out _ Lc) (fun hHeld hTwo => ?_)
                        clear hK K
                        (try simp only [Act.put, List.setIfInBounds_toArray, List.set_cons_zero, List.set_cons_succ])
                        refine wpAnyZ_ready (rs := [17]) (by kernel_rfl) (by simp) ?_
                        refine AllReadyZ.cons (o := { dst := some 72, op := _, type := _, pos := _, after := _, guard := _ }) rfl ?_ ?_
                        · intro K hK
                          refine step_append_row (by rfl) (.tmp 67) (.tmp 71) 37 (by rfl) wq.heap.size 9 i9 _ 1 16 Tryd.underlying37 hin9 hz90 hz91 hz92 rfl (by decide) v2 (a + 1) _ (by rfl) hown2 (if kc = a then kq else Option.map (fun x => x.add a) kq) (k - a) (kc - a) _ (by rfl) (hlt2.out _ Lc) hone2.out (by unfold maxLen; omega) (by omega) Lc.size ?_
                          intro v3 wd hown3 hgrow3
                          have Ld := below_own Lc hown2 hgrow3
                          refine hK.out _ _ trivial (hS2.out _ Ld) (fun hHeld hTwo => ?_)
                          clear hK K
                          (try simp only [Act.put, List.setIfInBounds_toArray, List.set_cons_zero, List.set_cons_succ])
                          refine wpAnyZ_take2 (i := 18) (oi := { dst := some 7, op := _, type := _, pos := _, after := _, guard := _ }) (v := ?_) rfl (by kernel_rfl) (by kernel_rfl) (by kernel_rfl) (by kernel_rfl) (fun _ _ _ h => h) (Or.inl ⟨by kernel_rfl, ?_⟩) ⟨hTwo, .inr hHeld⟩ ?_
                          rotate_left
                          · intro w hSw; (try dsimp only at hSw); go_simp; (try with_reducible rfl)
                          (try simp only [Act.put, List.setIfInBounds_toArray, List.set_cons_zero, List.set_cons_succ])
                          refine wpAnyZ_done (by kernel_rfl) ?_ _
                          go_wp2_with fail
                          all_goals (go_meet; exact ⟨hfin.out _ _ hown3, Ld⟩)
                        exact AllReadyZ.nil
                      exact AllReadyZ.nil
                    exact AllReadyZ.nil
                  refine AllReadyZ.cons (o := { dst := some 66, op := _, type := _, pos := _, after := _, guard := _ }) rfl ?_ ?_
                  · intro K hK
                    go_simp
                    have kb : Blk (wq.drew.alloc (.cells #[.string key] 9)) wq.heap.size #[.string key] 9 := Blk.new _ _ _
                    have L1 := Below.alloc L0 L0.size (.cells #[.string key] 9)
                    refine hK.out _ _ trivial (hS2.out _ L1) (fun hHeld hTwo => ?_)
                    clear hK K
                    (try simp only [Act.put, List.setIfInBounds_toArray, List.set_cons_zero, List.set_cons_succ])
                    refine wpAnyZ_ready (rs := [5]) (by kernel_rfl) (by simp) ?_
                    refine AllReadyZ.cons (o := { dst := some 60, op := _, type := _, pos := _, after := _, guard := _ }) rfl ?_ ?_
                    · intro K hK
                      refine step_append_row (by rfl) (.tmp 55) (.tmp 59) 37 (by rfl) wq.heap.size 9 i9 _ 1 16 Tryd.underlying37 hin9 hz90 hz91 hz92 rfl (by decide) (.slice none 0 0) 0 [] (by rfl) (World.ownsRow_nil _ _ _ _) kq a kc _ (by rfl) (hlt1.out _ L1) hone1.out (by unfold maxLen; omega) (by omega) L1.size ?_
                      intro v1 wa hown1 hgrow1
                      rw [Nat.zero_add, List.nil_append] at hown1
                      have La := below_own L1 (World.ownsRow_nil _ _ 9 1) hgrow1
                      replace kb := Blk.grown kb hgrow1 (by simp [Value.ownBlock])
                      refine hK.out _ _ trivial (hS2.out _ La) (fun hHeld hTwo => ?_)
                      clear hK K
                      (try simp only [Act.put, List.setIfInBounds_toArray, List.set_cons_zero, List.set_cons_succ])
                      refine wpAnyZ_ready (rs := [12]) (by kernel_rfl) (by simp) ?_
                      refine AllReadyZ.cons (o := { dst := some 67, op := _, type := _, pos := _, after := _, guard := _ }) rfl ?_ ?_
                      · intro K hK
                        refine step_append_row (by rfl) (.tmp 60) (.tmp 66) 37 (by rfl) wq.heap.size 9 i9 _ 1 16 Tryd.underlying37 hin9 hz90 hz91 hz92 rfl (by decide) v1 a _ (by rfl) hown1 (some ⟨wq.heap.size, 0, none⟩) 1 1 [.string key] (by rfl) (.inr ⟨_, rfl, by omega, rfl, World.news_of_block kb⟩) (by simp [Value.oneCell']) (by unfold maxLen; omega) (by omega) La.size ?_
                        intro v2 wb hown2 hgrow2
                        have Lc := below_own La hown1 hgrow2
                        refine hK.out _ _ trivial (hS2.out _ Lc) (fun hHeld hTwo => ?_)
                        clear hK K
                        (try simp only [Act.put, List.setIfInBounds_toArray, List.set_cons_zero, List.set_cons_succ])
                        refine wpAnyZ_ready (rs := [17]) (by kernel_rfl) (by simp) ?_
                        refine AllReadyZ.cons (o := { dst := some 72, op := _, type := _, pos := _, after := _, guard := _ }) rfl ?_ ?_
                        · intro K hK
                          refine step_append_row (by rfl) (.tmp 67) (.tmp 71) 37 (by rfl) wq.heap.size 9 i9 _ 1 16 Tryd.underlying37 hin9 hz90 hz91 hz92 rfl (by decide) v2 (a + 1) _ (by rfl) hown2 (if kc = a then kq else Option.map (fun x => x.add a) kq) (k - a) (kc - a) _ (by rfl) (hlt2.out _ Lc) hone2.out (by unfold maxLen; omega) (by omega) Lc.size ?_
                          intro v3 wd hown3 hgrow3
                          have Ld := below_own Lc hown2 hgrow3
                          refine hK.out _ _ trivial (hS2.out _ Ld) (fun hHeld hTwo => ?_)
                          clear hK K
                          (try simp only [Act.put, List.setIfInBounds_toArray, List.set_cons_zero, List.set_cons_succ])
                          refine wpAnyZ_take2 (i := 18) (oi := { dst := some 7, op := _, type := _, pos := _, after := _, guard := _ }) (v := ?_) rfl (by kernel_rfl) (by kernel_rfl) (by kernel_rfl) (by kernel_rfl) (fun _ _ _ h => h) (Or.inl ⟨by kernel_rfl, ?_⟩) ⟨hTwo, .inr hHeld⟩ ?_
                          rotate_left
                          · intro w hSw; (try dsimp only at hSw); go_simp; (try with_reducible rfl)
                          (try simp only [Act.put, List.setIfInBounds_toArray, List.set_cons_zero, List.set_cons_succ])
                          refine wpAnyZ_done (by kernel_rfl) ?_ _
                          go_wp2_with fail
                          all_goals (go_meet; exact ⟨hfin.out _ _ hown3, Ld⟩)
                        exact AllReadyZ.nil
                      exact AllReadyZ.nil
                    exact AllReadyZ.nil
                  exact AllReadyZ.nil
                case rest =>
                  obtain ⟨own1, L1⟩ := hcut
                  obtain ⟨q7, c7, rfl⟩ := own_slice own1
                  have hown1 := Lib.hid own1
                  have hL1 := Lib.hid L1
                  have z1 := L1.size
                  go_upto_region 13 with fail
                  go_cut [8] (fun v (wx : World) => wx.ownsRow wc.heap.size 39 5 v (k + 1) (valC (L.take a ++ ⟨key, ⟨vk, vn, vs, vp, vnp, vcp, vq, vnq, vcq⟩⟩ :: L.drop a)) ∧ Below wc.heap.size wc wx)
                  case first =>
                    have L0 : Below wc.heap.size wc wc.drew := Below.drew (Below.refl _ _)
                    have hS2 := Lib.hid (show ∀ w', Below wc.heap.size wc w' → w'.cell? ⟨W.heap.size + 1, 3, none⟩ = some (.slice pq k pc) ∧ w'.cell? ⟨b, o + k * 6 + 1, none⟩ = some (.int .i64 vk) ∧ w'.cell? ⟨b, o + k * 6 + 2, none⟩ = some (.int .i64 vn) ∧ w'.cell? ⟨b, o + k * 6 + 3, none⟩ = some (.string vs) ∧ w'.cell? ⟨b, o + k * 6 + 4, none⟩ = some (.slice vp vnp vcp) ∧ w'.cell? ⟨b, o + k * 6 + 5, none⟩ = some (.slice vq vnq vcq) from fun w' hb => by
                      have hb' := Below.after hL1.out hb z1
                      exact ⟨(hb'.cell (p := ⟨W.heap.size + 1, 3, none⟩) zq).trans x3', (hb'.cell (p := ⟨b, o + k * 6 + 1, none⟩) hlbq).trans w1', (hb'.cell (p := ⟨b, o + k * 6 + 2, none⟩) hlbq).trans w2', (hb'.cell (p := ⟨b, o + k * 6 + 3, none⟩) hlbq).trans w3', (hb'.cell (p := ⟨b, o + k * 6 + 4, none⟩) hlbq).trans w4', (hb'.cell (p := ⟨b, o + k * 6 + 5, none⟩) hlbq).trans w5'⟩)
                    have hlt1 := Lib.hid (fun w' (hb : Below wc.heap.size wc w') => (own_lies_take gK.out.T.o2 hak).below (Below.after hL1.out hb z1))
                    have hlt2 := Lib.hid (fun w' (hb : Below wc.heap.size wc w') => (own_lies_drop gK.out.T.o2 hak).below (Below.after hL1.out hb z1))
                    have hone1 := Lib.hid (show ∀ u ∈ (valC L).take (a * 5), u.oneCell' = true from fun u hu => valC_one L u (List.mem_of_mem_take hu))
                    have hone2 := Lib.hid (show ∀ u ∈ (valC L).drop (a * 5), u.oneCell' = true from fun u hu => valC_one L u (List.mem_of_mem_drop hu))
                    have hfin := Lib.hid (show ∀ v (wx : World), wx.ownsRow wc.heap.size 39 5 v (a + 1 + (k - a)) ((valC L).take (a * 5) ++ [.int .i64 vk, .int .i64 vn, .string vs, .slice vp vnp vcp, .slice vq vnq vcq] ++ (valC L).drop (a * 5)) → wx.ownsRow wc.heap.size 39 5 v (k + 1) (valC (L.take a ++ ⟨key, ⟨vk, vn, vs, vp, vnp, vcp, vq, vnq, vcq⟩⟩ :: L.drop a)) from fun v wx h => by
                      rw [valC_ins L _ a (by omega), show k + 1 = a + 1 + (k - a) by omega]
                      exact h)
                    clear w0' w1' w2' w3' w4' w5' x3' x4' own1 L1
                    refine wp_region_z (S := fun _ => True) (S2 := fun w' => w'.cell? ⟨W.heap.size + 1, 3, none⟩ = some (.slice pq k pc) ∧ w'.cell? ⟨b, o + k * 6 + 1, none⟩ = some (.int .i64 vk) ∧ w'.cell? ⟨b, o + k * 6 + 2, none⟩ = some (.int .i64 vn) ∧ w'.cell? ⟨b, o + k * 6 + 3, none⟩ = some (.string vs) ∧ w'.cell? ⟨b, o + k * 6 + 4, none⟩ = some (.slice vp vnp vcp) ∧ w'.cell? ⟨b, o + k * 6 + 5, none⟩ = some (.slice vq vnq vcq)) 99 (by kernel_rfl) trivial (hS2.out _ L0) (fun hHeld hTwo => ?_)
                    refine wpAnyZ_take2 (i := 0) (oi := { dst := some 73, op := _, type := _, pos := _, after := _, guard := _ }) (v := ?_) rfl (by kernel_rfl) (by kernel_rfl) (by kernel_rfl) (by kernel_rfl) (fun _ _ _ h => h) (Or.inl ⟨by kernel_rfl, ?_⟩) ⟨hTwo, .inr hHeld⟩ ?_
                    rotate_left
                    · intro w hSw; (try dsimp only at hSw); go_simp; (try with_reducible rfl)
                    (try simp only [Act.put, List.setIfInBounds_toArray, List.set_cons_zero, List.set_cons_succ])
                    refine wpAnyZ_take2 (i := 1) (oi := { dst := some 74, op := _, type := _, pos := _, after := _, guard := _ }) (v := ?_) rfl (by kernel_rfl) (by kernel_rfl) (by kernel_rfl) (by kernel_rfl) (fun _ _ _ h => h) (Or.inl ⟨by kernel_rfl, ?_⟩) ⟨hTwo, .inr hHeld⟩ ?_
                    rotate_left
                    · intro w hSw; (try dsimp only at hSw); go_simp; (try with_reducible rfl)
                    (try simp only [Act.put, List.setIfInBounds_toArray, List.set_cons_zero, List.set_cons_succ])
                    refine wpAnyZ_take2 (i := 2) (oi := { dst := some 75, op := _, type := _, pos := _, after := _, guard := _ }) (v := ?_) rfl (by kernel_rfl) (by kernel_rfl) (by kernel_rfl) (by kernel_rfl) (fun _ _ _ h => h) (Or.inl ⟨by kernel_rfl, ?_⟩) ⟨hTwo, .inr hHeld⟩ ?_
                    rotate_left
                    · intro w hSw; (try dsimp only at hSw); go_simp; (try with_reducible rfl)
                    (try simp only [Act.put, List.setIfInBounds_toArray, List.set_cons_zero, List.set_cons_succ])
                    refine wpAnyZ_take2 (i := 3) (oi := { dst := some 76, op := _, type := _, pos := _, after := _, guard := _ }) (v := ?_) rfl (by kernel_rfl) (by kernel_rfl) (by kernel_rfl) (by kernel_rfl) (fun _ _ _ h => h) (Or.inl ⟨by kernel_rfl, ?_⟩) ⟨hTwo, .inr hHeld⟩ ?_
                    rotate_left
                    · intro w hSw; (try dsimp only at hSw); go_simp; (try with_reducible rfl)
                    (try simp only [Act.put, List.setIfInBounds_toArray, List.set_cons_zero, List.set_cons_succ])
                    refine wpAnyZ_take2 (i := 4) (oi := { dst := some 77, op := _, type := _, pos := _, after := _, guard := _ }) (v := ?_) rfl (by kernel_rfl) (by kernel_rfl) (by kernel_rfl) (by kernel_rfl) (fun _ _ _ h => h) (Or.inl ⟨by kernel_rfl, ?_⟩) ⟨hTwo, .inr hHeld⟩ ?_
                    rotate_left
                    · intro w hSw; (try dsimp only at hSw); go_simp; (try with_reducible rfl)
                    (try simp only [Act.put, List.setIfInBounds_toArray, List.set_cons_zero, List.set_cons_succ])
                    refine wpAnyZ_take2 (i := 6) (oi := { dst := some 79, op := _, type := _, pos := _, after := _, guard := _ }) (v := ?_) rfl (by kernel_rfl) (by kernel_rfl) (by kernel_rfl) (by kernel_rfl) (fun _ _ _ h => h) (Or.inl ⟨by kernel_rfl, ?_⟩) ⟨hTwo, .inr hHeld⟩ ?_
                    rotate_left
                    · intro w hSw; (try dsimp only at hSw); go_simp; (try with_reducible rfl)
                    (try simp only [Act.put, List.setIfInBounds_toArray, List.set_cons_zero, List.set_cons_succ])
                    refine wpAnyZ_take2 (i := 7) (oi := { dst := some 80, op := _, type := _, pos := _, after := _, guard := _ }) (v := ?_) rfl (by kernel_rfl) (by kernel_rfl) (by kernel_rfl) (by kernel_rfl) (fun _ _ _ h => h) (Or.inl ⟨by kernel_rfl, ?_⟩) ⟨hTwo, .inr hHeld⟩ ?_
                    rotate_left
                    · intro w hSw; (try dsimp only at hSw); go_simp; (try with_reducible rfl)
                    (try simp only [Act.put, List.setIfInBounds_toArray, List.set_cons_zero, List.set_cons_succ])
                    refine wpAnyZ_take2 (i := 8) (oi := { dst := some 81, op := _, type := _, pos := _, after := _, guard := _ }) (v := ?_) rfl (by kernel_rfl) (by kernel_rfl) (by kernel_rfl) (by kernel_rfl) (fun _ _ _ h => h) (Or.inl ⟨by kernel_rfl, ?_⟩) ⟨hTwo, .inr hHeld⟩ ?_
                    rotate_left
                    · intro w hSw; (try dsimp only at hSw); go_simp; (try with_reducible rfl)
                    (try simp only [Act.put, List.setIfInBounds_toArray, List.set_cons_zero, List.set_cons_succ])
                    refine wpAnyZ_take2 (i := 9) (oi := { dst := some 82, op := _, type := _, pos := _, after := _, guard := _ }) (v := ?_) rfl (by kernel_rfl) (by kernel_rfl) (by kernel_rfl) (by kernel_rfl) (fun _ _ _ h => h) (Or.inl ⟨by kernel_rfl, ?_⟩) ⟨hTwo, .inr hHeld⟩ ?_
                    rotate_left
                    · intro w hSw; (try dsimp only at hSw); go_simp; (try with_reducible rfl)
                    (try simp only [Act.put, List.setIfInBounds_toArray, List.set_cons_zero, List.set_cons_succ])
                    refine wpAnyZ_take2 (i := 10) (oi := { dst := some 83, op := _, type := _, pos := _, after := _, guard := _ }) (v := ?_) rfl (by kernel_rfl) (by kernel_rfl) (by kernel_rfl) (by kernel_rfl) (fun _ _ _ h => h) (Or.inl ⟨by kernel_rfl, ?_⟩) ⟨hTwo, .inr hHeld⟩ ?_
                    rotate_left
                    · intro w hSw; (try dsimp only at hSw); go_simp; (try with_reducible rfl)
                    (try simp only [Act.put, List.setIfInBounds_toArray, List.set_cons_zero, List.set_cons_succ])
                    refine wpAnyZ_take2 (i := 13) (oi := { dst := some 86, op := _, type := _, pos := _, after := _, guard := _ }) (v := ?_) rfl (by kernel_rfl) (by kernel_rfl) (by kernel_rfl) (by kernel_rfl) (fun _ _ _ h => h) (Or.inl ⟨by kernel_rfl, ?_⟩) ⟨hTwo, .inr hHeld⟩ ?_
                    rotate_left
                    · intro w hSw; (try dsimp only at hSw); go_simp; (try with_reducible rfl)
                    (try simp only [Act.put, List.setIfInBounds_toArray, List.set_cons_zero, List.set_cons_succ])
                    refine wpAnyZ_take2 (i := 14) (oi := { dst := some 87, op := _, type := _, pos := _, after := _, guard := _ }) (v := ?_) rfl (by kernel_rfl) (by kernel_rfl) (by kernel_rfl) (by kernel_rfl) (fun _ _ _ h => h) (Or.inl ⟨by kernel_rfl, ?_⟩) ⟨hTwo, .inr hHeld⟩ ?_
                    rotate_left
                    · intro w hSw; (try dsimp only at hSw); go_simp; (try with_reducible rfl)
                    (try simp only [Act.put, List.setIfInBounds_toArray, List.set_cons_zero, List.set_cons_succ])
                    refine wpAnyZ_take2 (i := 15) (oi := { dst := some 88, op := _, type := _, pos := _, after := _, guard := _ }) (v := ?_) rfl (by kernel_rfl) (by kernel_rfl) (by kernel_rfl) (by kernel_rfl) (fun _ _ _ h => h) (Or.inl ⟨by kernel_rfl, ?_⟩) ⟨hTwo, .inr hHeld⟩ ?_
                    rotate_left
                    · intro w hSw; (try dsimp only at hSw); go_simp; (try with_reducible rfl)
                    (try simp only [Act.put, List.setIfInBounds_toArray, List.set_cons_zero, List.set_cons_succ])
                    refine wpAnyZ_take2 (i := 16) (oi := { dst := some 89, op := _, type := _, pos := _, after := _, guard := _ }) (v := ?_) rfl (by kernel_rfl) (by kernel_rfl) (by kernel_rfl) (by kernel_rfl) (fun _ _ _ h => h) (Or.inl ⟨by kernel_rfl, ?_⟩) ⟨hTwo, .inr hHeld⟩ ?_
                    rotate_left
                    · intro w hSw; (try dsimp only at hSw); go_simp; (try with_reducible rfl)
                    (try simp only [Act.put, List.setIfInBounds_toArray, List.set_cons_zero, List.set_cons_succ])
                    refine wpAnyZ_ready (rs := [5, 11]) (by kernel_rfl) (by simp) ?_
                    refine AllReadyZ.cons (o := { dst := some 78, op := _, type := _, pos := _, after := _, guard := _ }) rfl ?_ ?_
                    · intro K hK
                      refine step_append_row (by rfl) (.tmp 73) (.tmp 77) 36 (by rfl) wc.heap.size 39 i0 _ 5 80 Tryd.underlying36 hin hz0 hz1 hz2 rfl (by decide) (.slice none 0 0) 0 [] (by rfl) (World.ownsRow_nil _ _ _ _) pq a pc _ (by rfl) (hlt1.out _ L0) hone1.out (by unfold maxLen; omega) (by omega) L0.size ?_
                      intro v1 wa hown1 hgrow1
                      rw [Nat.zero_add, List.nil_append] at hown1
                      have La := below_own L0 (World.ownsRow_nil _ _ 39 5) hgrow1
                      refine hK.out _ _ trivial (hS2.out _ La) (fun hHeld hTwo => ?_)
                      clear hK K
                      (try simp only [Act.put, List.setIfInBounds_toArray, List.set_cons_zero, List.set_cons_succ])
                      refine wpAnyZ_ready (rs := [11]) (by kernel_rfl) (by simp) ?_
                      refine AllReadyZ.cons (o := { dst := some 84, op := _, type := _, pos := _, after := _, guard := _ }) rfl ?_ ?_
                      · intro K hK
                        go_simp
                        have kb : Blk (wa.alloc (.cells #[.int .i64 vk, .int .i64 vn, .string vs, .slice vp vnp vcp, .slice vq vnq vcq] 39)) wa.heap.size #[.int .i64 vk, .int .i64 vn, .string vs, .slice vp vnp vcp, .slice vq vnq vcq] 39 := Blk.new _ _ _
                        replace hown1 := hown1.alloc (.cells #[.int .i64 vk, .int .i64 vn, .string vs, .slice vp vnp vcp, .slice vq vnq vcq] 39)
                        have Lb := Below.alloc La La.size (.cells #[.int .i64 vk, .int .i64 vn, .string vs, .slice vp vnp vcp, .slice vq vnq vcq] 39)
                        refine hK.out _ _ trivial (hS2.out _ Lb) (fun hHeld hTwo => ?_)
                        clear hK K
                        (try simp only [Act.put, List.setIfInBounds_toArray, List.set_cons_zero, List.set_cons_succ])
                        refine wpAnyZ_ready (rs := [12]) (by kernel_rfl) (by simp) ?_
                        refine AllReadyZ.cons (o := { dst := some 85, op := _, type := _, pos := _, after := _, guard := _ }) rfl ?_ ?_
                        · intro K hK
                          refine step_append_row (by rfl) (.tmp 78) (.tmp 84) 36 (by rfl) wc.heap.size 39 i0 _ 5 80 Tryd.underlying36 hin hz0 hz1 hz2 rfl (by decide) v1 a _ (by rfl) hown1 (some ⟨wa.heap.size, 0, none⟩) 1 1 [.int .i64 vk, .int .i64 vn, .string vs, .slice vp vnp vcp, .slice vq vnq vcq] (by rfl) (.inr ⟨_, rfl, by omega, rfl, World.news_of_block kb⟩) (by simp [Value.oneCell']) (by unfold maxLen; omega) (by omega) Lb.size ?_
                          intro v2 wb hown2 hgrow2
                          have Lc := below_own Lb hown1 hgrow2
                          refine hK.out _ _ trivial (hS2.out _ Lc) (fun hHeld hTwo => ?_)
                          clear hK K
                          (try simp only [Act.put, List.setIfInBounds_toArray, List.set_cons_zero, List.set_cons_succ])
                          refine wpAnyZ_ready (rs := [17]) (by kernel_rfl) (by simp) ?_
                          refine AllReadyZ.cons (o := { dst := some 90, op := _, type := _, pos := _, after := _, guard := _ }) rfl ?_ ?_
                          · intro K hK
                            refine step_append_row (by rfl) (.tmp 85) (.tmp 89) 36 (by rfl) wc.heap.size 39 i0 _ 5 80 Tryd.underlying36 hin hz0 hz1 hz2 rfl (by decide) v2 (a + 1) _ (by rfl) hown2 (cutA pq pc a 5) (k - a) (pc - a) _ (by rfl) (hlt2.out _ Lc) hone2.out (by unfold maxLen; omega) (by omega) Lc.size ?_
                            intro v3 wd hown3 hgrow3
                            have Ld := below_own Lc hown2 hgrow3
                            refine hK.out _ _ trivial (hS2.out _ Ld) (fun hHeld hTwo => ?_)
                            clear hK K
                            (try simp only [Act.put, List.setIfInBounds_toArray, List.set_cons_zero, List.set_cons_succ])
                            refine wpAnyZ_take2 (i := 18) (oi := { dst := some 8, op := _, type := _, pos := _, after := _, guard := _ }) (v := ?_) rfl (by kernel_rfl) (by kernel_rfl) (by kernel_rfl) (by kernel_rfl) (fun _ _ _ h => h) (Or.inl ⟨by kernel_rfl, ?_⟩) ⟨hTwo, .inr hHeld⟩ ?_
                            rotate_left
                            · intro w hSw; (try dsimp only at hSw); go_simp; (try with_reducible rfl)
                            (try simp only [Act.put, List.setIfInBounds_toArray, List.set_cons_zero, List.set_cons_succ])
                            refine wpAnyZ_done (by kernel_rfl) ?_ _
                            go_wp2_with fail
                            all_goals (go_meet; exact ⟨hfin.out _ _ hown3, Ld⟩)
                          exact AllReadyZ.nil
                        exact AllReadyZ.nil
                      exact AllReadyZ.nil
                    refine AllReadyZ.cons (o := { dst := some 84, op := _, type := _, pos := _, after := _, guard := _ }) rfl ?_ ?_
                    · intro K hK
                      go_simp
                      have kb : Blk (wc.drew.alloc (.cells #[.int .i64 vk, .int .i64 vn, .string vs, .slice vp vnp vcp, .slice vq vnq vcq] 39)) wc.heap.size #[.int .i64 vk, .int .i64 vn, .string vs, .slice vp vnp vcp, .slice vq vnq vcq] 39 := Blk.new _ _ _
                      have L1 := Below.alloc L0 L0.size (.cells #[.int .i64 vk, .int .i64 vn, .string vs, .slice vp vnp vcp, .slice vq vnq vcq] 39)
                      refine hK.out _ _ trivial (hS2.out _ L1) (fun hHeld hTwo => ?_)
                      clear hK K
                      (try simp only [Act.put, List.setIfInBounds_toArray, List.set_cons_zero, List.set_cons_succ])
                      refine wpAnyZ_ready (rs := [5]) (by kernel_rfl) (by simp) ?_
                      refine AllReadyZ.cons (o := { dst := some 78, op := _, type := _, pos := _, after := _, guard := _ }) rfl ?_ ?_
                      · intro K hK
                        refine step_append_row (by rfl) (.tmp 73) (.tmp 77) 36 (by rfl) wc.heap.size 39 i0 _ 5 80 Tryd.underlying36 hin hz0 hz1 hz2 rfl (by decide) (.slice none 0 0) 0 [] (by rfl) (World.ownsRow_nil _ _ _ _) pq a pc _ (by rfl) (hlt1.out _ L1) hone1.out (by unfold maxLen; omega) (by omega) L1.size ?_
                        intro v1 wa hown1 hgrow1
                        rw [Nat.zero_add, List.nil_append] at hown1
                        have La := below_own L1 (World.ownsRow_nil _ _ 39 5) hgrow1
                        replace kb := Blk.grown kb hgrow1 (by simp [Value.ownBlock])
                        refine hK.out _ _ trivial (hS2.out _ La) (fun hHeld hTwo => ?_)
                        clear hK K
                        (try simp only [Act.put, List.setIfInBounds_toArray, List.set_cons_zero, List.set_cons_succ])
                        refine wpAnyZ_ready (rs := [12]) (by kernel_rfl) (by simp) ?_
                        refine AllReadyZ.cons (o := { dst := some 85, op := _, type := _, pos := _, after := _, guard := _ }) rfl ?_ ?_
                        · intro K hK
                          refine step_append_row (by rfl) (.tmp 78) (.tmp 84) 36 (by rfl) wc.heap.size 39 i0 _ 5 80 Tryd.underlying36 hin hz0 hz1 hz2 rfl (by decide) v1 a _ (by rfl) hown1 (some ⟨wc.heap.size, 0, none⟩) 1 1 [.int .i64 vk, .int .i64 vn, .string vs, .slice vp vnp vcp, .slice vq vnq vcq] (by rfl) (.inr ⟨_, rfl, by omega, rfl, World.news_of_block kb⟩) (by simp [Value.oneCell']) (by unfold maxLen; omega) (by omega) La.size ?_
                          intro v2 wb hown2 hgrow2
                          have Lc := below_own La hown1 hgrow2
                          refine hK.out _ _ trivial (hS2.out _ Lc) (fun hHeld hTwo => ?_)
                          clear hK K
                          (try simp only [Act.put, List.setIfInBounds_toArray, List.set_cons_zero, List.set_cons_succ])
                          refine wpAnyZ_ready (rs := [17]) (by kernel_rfl) (by simp) ?_
                          refine AllReadyZ.cons (o := { dst := some 90, op := _, type := _, pos := _, after := _, guard := _ }) rfl ?_ ?_
                          · intro K hK
                            refine step_append_row (by rfl) (.tmp 85) (.tmp 89) 36 (by rfl) wc.heap.size 39 i0 _ 5 80 Tryd.underlying36 hin hz0 hz1 hz2 rfl (by decide) v2 (a + 1) _ (by rfl) hown2 (cutA pq pc a 5) (k - a) (pc - a) _ (by rfl) (hlt2.out _ Lc) hone2.out (by unfold maxLen; omega) (by omega) Lc.size ?_
                            intro v3 wd hown3 hgrow3
                            have Ld := below_own Lc hown2 hgrow3
                            refine hK.out _ _ trivial (hS2.out _ Ld) (fun hHeld hTwo => ?_)
                            clear hK K
                            (try simp only [Act.put, List.setIfInBounds_toArray, List.set_cons_zero, List.set_cons_succ])
                            refine wpAnyZ_take2 (i := 18) (oi := { dst := some 8, op := _, type := _, pos := _, after := _, guard := _ }) (v := ?_) rfl (by kernel_rfl) (by kernel_rfl) (by kernel_rfl) (by kernel_rfl) (fun _ _ _ h => h) (Or.inl ⟨by kernel_rfl, ?_⟩) ⟨hTwo, .inr hHeld⟩ ?_
                            rotate_left
                            · intro w hSw; (try dsimp only at hSw); go_simp; (try with_reducible rfl)
                            (try simp only [Act.put, List.setIfInBounds_toArray, List.set_cons_zero, List.set_cons_succ])
                            refine wpAnyZ_done (by kernel_rfl) ?_ _
                            go_wp2_with fail
                            all_goals (go_meet; exact ⟨hfin.out _ _ hown3, Ld⟩)
                          exact AllReadyZ.nil
                        exact AllReadyZ.nil
                      exact AllReadyZ.nil
                    exact AllReadyZ.nil
                  case rest =>
                    obtain ⟨own2, L2⟩ := hcut
                    obtain ⟨q8, c8, rfl⟩ := own_slice own2
                    have hn := Lib.hid (QRel.next gK.out hxk.out hak hless (fun hj => ⟨hno'.out hj, hap'.out hj⟩) hown1.out hL1.out own2 L2)
                    have vbd := (gK.out.vb.kept hL1.out).kept L2
                    have e3 := vbd.cell 3
                    have e4 := vbd.cell 4
                    have f3 := vbd.frozen 3
                    have f4 := vbd.frozen 4
                    simp at e3 e4
                    clear w0' w1' w2' w3' w4' w5' x3' x4' own1 own2 vbd
                    go_wp2_with fail
                    exact ⟨⟨k + 1, _, _, _, by simp, by omega, hn.out⟩, by simp [intOf]; omega⟩
              · have hdd := Lib.hid (hdup rfl)
                clear hap hdup
                have rbq := hQ.out.rb
                have r0 := rbq.cell 0
                have r1 := rbq.cell 1
                have r2 := rbq.cell 2
                have r3 := rbq.cell 3
                have r4 := rbq.cell 4
                have f0 := rbq.frozen 0
                have f1 := rbq.frozen 1
                have f2 := rbq.frozen 2
                have f3 := rbq.frozen 3
                have f4 := rbq.frozen 4
                simp at r0 r1 r2 r3 r4
                go_wp2_with fail
                refine bodyPost_ret (v := .tuple #[zero5.v, .int .i64 141]) (by simp [results, Tryd.results18, go_sem, *]) rfl ⟨.inl ⟨hdd.out, rfl⟩, ?_⟩
                have hb0 := hQ.out.bl
                have hbq : Below W.heap.size W (wr.drewN q2) := ⟨hb0.os, hb0.tape, hb0.output, hb0.size, hb0.block⟩
                exact Below.set (Below.set (Below.set (Below.set (Below.set hbq (by omega) _) (by omega) _) (by omega) _) (by omega) _) (by omega) _
          · have hyes' := Lib.hid (hyes rfl)
            clear hyes hno
            go_wp2_with fail
            refine ⟨⟨a + 1, q', by simp, ?_, ?_, rfl⟩, ?_⟩
            · have := hyes'.out.1; omega
            · intro j hj hjl
              rcases Nat.lt_or_ge j a with hja | hja
              · exact hless j hja hjl
              · obtain rfl : j = a := by omega
                exact hyes'.out.2 hjl
            · have := hyes'.out.1
              simp [intOf]; omega
    · obtain rfl : k = n := by omega
      have hlz : ¬((k : Int) < k) := by omega
      obtain ⟨kq, kc, rfl⟩ := own_slice T0.o1
      obtain ⟨pq, pc, rfl⟩ := own_slice T0.o2
      rw [List.take_of_length_le (by omega)] at pm
      have hls := Lib.hid (fun x (hx : x ∈ L) => hks'.out x (pm.mem_iff.1 hx))
      have hlay := Lib.hid (fun W' (hb : Below W.heap.size W W') x (hx : x ∈ L) => (hv'.out x (pm.mem_iff.1 hx)).below hb)
      have hlo := Lib.hid (lay_obj hll T0 (hlay.out wr bl) hls.out (by omega))
      have hri := Lib.hid (fun W' (hb : Below wr.heap.size wr W') => rright_any (hlo.out.below hb))
      have hpm := Lib.hid pm
      have hpw := Lib.hid pw
      have hT := Lib.hid T0
      have x0 := vbk.cell 0
      have x1 := vbk.cell 1
      have x2 := vbk.cell 2
      have x3 := vbk.cell 3
      have x4 := vbk.cell 4
      simp at x0 x1 x2 x3 x4
      generalize hR : rightT (h + 1) (objT tr L) = r at hri
      have hR' := Lib.hid hR
      clear hR hlo hQ T0 pm pw
      simp only [V5.v, V5.cs] at hri
      cases r
      all_goals
        go_wp2_with (go_at_call 21; refine (hri.out _ (Below.refl _ _)).mono ?_; rintro e w3 ⟨rfl, hb3⟩; have rb3 := rbk.kept hb3; have r0 := rb3.cell 0; have r1 := rb3.cell 1; have r2 := rb3.cell 2; have r3 := rb3.cell 3; have r4 := rb3.cell 4; have f0 := rb3.frozen 0; have f1 := rb3.frozen 1; have f2 := rb3.frozen 2; have f3 := rb3.frozen 3; have f4 := rb3.frozen 4; have vb3 := vbk.kept hb3; have v0 := vb3.cell 0; have v1 := vb3.cell 1; have v2 := vb3.cell 2; have v3 := vb3.cell 3; have v4 := vb3.cell 4; simp at r0 r1 r2 r3 r4 v0 v1 v2 v3 v4; have zw3 := hb3.size)
        have hbW3 : Below W.heap.size W w3 := bl.trans (hb3.mono (by omega))
      · refine bodyPost_ret (v := .tuple #[zero5.v, .int .i64 140]) (by simp [results, Tryd.results18, go_sem, *]) rfl ⟨.inr ⟨L, hpm.out, hpw.out, .inr ⟨hR'.out, rfl⟩⟩, ?_⟩
        exact Below.set (Below.set (Below.set (Below.set (Below.set hbW3 (by omega) _) (by omega) _) (by omega) _) (by omega) _) (by omega) _
      · refine bodyPost_ret (v := .tuple #[.agg #[.int .i64 6, .int .i64 0, .string ⟨#[]⟩, .slice pq k pc, .slice kq k kc], .int .i64 0]) (by simp [results, Tryd.results18, go_sem, *]) rfl ⟨.inr ⟨L, hpm.out, hpw.out, .inl ⟨hR'.out, ⟨6, 0, ⟨#[]⟩, pq, k, pc, kq, k, kc⟩, rfl, ?_⟩⟩, ?_⟩
        · refine lay_obj hll ((((((hT.out.kept hb3).set (by omega) _ _).set (by omega) _ _).set (by omega) _ _).set (by omega) _ _).set (by omega) _ _) (hlay.out _ ?_) hls.out (by omega)
          exact Below.set (Below.set (Below.set (Below.set (Below.set hbW3 (by omega) _) (by omega) _) (by omega) _) (by omega) _) (by omega) _
        · exact Below.set (Below.set (Below.set (Below.set (Below.set hbW3 (by omega) _) (by omega) _) (by omega) _) (by omega) _) (by omega) _

end Go.Proofs.YtmleipmilmeclaaDoor
