/- Walks: a binary search over two keys, place, kid, Get. -/
import Derived.Test.YtmleipmilmeclaaDoorXTl
namespace Go.Proofs.YtmleipmilmeclaaDoor
open Go.RowKit
attribute [local go_sem ↓] Go.wp_at_zero Go.wp_at_succ

abbrev kA : ByteArray := ⟨#[97]⟩
abbrev kB : ByteArray := ⟨#[98]⟩
abbrev kC : ByteArray := ⟨#[99]⟩
theorem lt_bb : Op.bytesLess kB.toList kB.toList = false := by decide +kernel
theorem lt_ab : Op.bytesLess kA.toList kB.toList = true := by decide +kernel
theorem lt_bc : Op.bytesLess kB.toList kC.toList = true := by decide +kernel

set_option maxRecDepth 100000 in
set_option maxHeartbeats 2000000 in
theorem search_b (g o cap : Nat) (w : World) (c0 : w.cell? ⟨g, o, none⟩ = some (.string kA)) (c1 : w.cell? ⟨g, o + 1, none⟩ = some (.string kB)) :
    Calls Tryd.prog 74 #[.slice (some ⟨g, o, none⟩) 2 cap, .string kB] w fun e w' => e = .returned (.tuple #[.int .i64 1, .bool true]) ∧ w' = w := by
  have h1 := Lib.hid (fun w => less_any kB kB w)
  have h0 := Lib.hid (fun w => less_any kA kB w)
  rw [lt_bb] at h1
  rw [lt_ab] at h0
  go_enter Tryd.func74, Tryd.ntmps74
  go_wp2_with fail
  go_loopw [7, 8] (fun i j wr => wr = w ∧ ((i = .int .i64 0 ∧ j = .int .i64 2) ∨ (i = .int .i64 0 ∧ j = .int .i64 1) ∨ (i = .int .i64 1 ∧ j = .int .i64 1))) (fun i j _ => (intOf j - intOf i).toNat)
  case atStart => exact ⟨rfl, .inl ⟨rfl, rfl⟩⟩
  case round =>
    obtain ⟨rfl, hrel⟩ := hrel
    rcases hrel with ⟨rfl, rfl⟩ | ⟨rfl, rfl⟩ | ⟨rfl, rfl⟩
    · go_wp2_with (go_at_call 91; refine (h1.out _).mono ?_; rintro e w1 ⟨rfl, rfl⟩)
      exact ⟨⟨trivial, .inr (.inl ⟨rfl, rfl⟩)⟩, by simp [intOf]⟩
    · go_wp2_with (go_at_call 91; refine (h0.out _).mono ?_; rintro e w1 ⟨rfl, rfl⟩)
      exact ⟨⟨trivial, .inr (.inr ⟨rfl, rfl⟩)⟩, by simp [intOf]⟩
    · go_wp2_with fail
      exact bodyPost_ret (v := .tuple #[.int .i64 1, .bool true]) (by simp [results, Tryd.results74, go_sem]) rfl ⟨rfl, rfl⟩

set_option maxRecDepth 100000 in
set_option maxHeartbeats 2000000 in
theorem search_c (g o cap : Nat) (w : World) (c1 : w.cell? ⟨g, o + 1, none⟩ = some (.string kB)) :
    Calls Tryd.prog 74 #[.slice (some ⟨g, o, none⟩) 2 cap, .string kC] w fun e w' => e = .returned (.tuple #[.int .i64 2, .bool false]) ∧ w' = w := by
  have h1 := Lib.hid (fun w => less_any kB kC w)
  rw [lt_bc] at h1
  go_enter Tryd.func74, Tryd.ntmps74
  go_wp2_with fail
  go_loopw [7, 8] (fun i j wr => wr = w ∧ ((i = .int .i64 0 ∧ j = .int .i64 2) ∨ (i = .int .i64 2 ∧ j = .int .i64 2))) (fun i j _ => (intOf j - intOf i).toNat)
  case atStart => exact ⟨rfl, .inl ⟨rfl, rfl⟩⟩
  case round =>
    obtain ⟨rfl, hrel⟩ := hrel
    rcases hrel with ⟨rfl, rfl⟩ | ⟨rfl, rfl⟩
    · go_wp2_with (go_at_call 91; refine (h1.out _).mono ?_; rintro e w1 ⟨rfl, rfl⟩)
      exact ⟨⟨trivial, .inr ⟨rfl, rfl⟩⟩, by simp [intOf]⟩
    · go_wp2_with fail
      exact bodyPost_ret (v := .tuple #[.int .i64 2, .bool false]) (by simp [results, Tryd.results74, go_sem]) rfl ⟨rfl, rfl⟩

theorem place_b (g o cap : Nat) (w : World) (c0 : w.cell? ⟨g, o, none⟩ = some (.string kA)) (c1 : w.cell? ⟨g, o + 1, none⟩ = some (.string kB)) :
    Calls Tryd.prog 58 #[.slice (some ⟨g, o, none⟩) 2 cap, .string kB] w fun e w' => e = .returned (.int .i64 1) ∧ Below w.heap.size w w' := by
  have h := Lib.hid (search_b g o cap w c0 c1)
  go_enter Tryd.func58, Tryd.ntmps58
  go_wp2_with (go_at_call 74; refine h.out.mono ?_; rintro e w1 ⟨rfl, rfl⟩)
  go_ret
  exact ⟨rfl, Below.refl _ _⟩
theorem place_c (g o cap : Nat) (w : World) (c1 : w.cell? ⟨g, o + 1, none⟩ = some (.string kB)) :
    Calls Tryd.prog 58 #[.slice (some ⟨g, o, none⟩) 2 cap, .string kC] w fun e w' => e = .returned (.int .i64 (-1)) ∧ Below w.heap.size w w' := by
  have h := Lib.hid (search_c g o cap w c1)
  go_enter Tryd.func58, Tryd.ntmps58
  go_wp2_with (go_at_call 74; refine h.out.mono ?_; rintro e w1 ⟨rfl, rfl⟩)
  go_ret
  exact ⟨rfl, Below.refl _ _⟩

set_option maxRecDepth 100000 in
set_option maxHeartbeats 4000000 in
theorem kid_yes {W : World} (v : V5) (hk : v.k = 6) (i : Nat) (hi : i < v.np) (g o : Nat) (hp : v.p = some ⟨g, o, none⟩) (hgl : g < W.heap.size) (u : V5) (hu : KidAt W g (o + i * 5) u)
    (hr : ∀ W', Below W.heap.size W W' → Calls Tryd.prog 31 #[v.v] W' fun e w' => e = .returned (.bool true) ∧ Below W'.heap.size W' w') :
    Calls Tryd.prog 57 #[v.v, .int .i64 6, .int .i64 (i : Int)] W fun e w' => e = .returned (.tuple #[u.v, .bool true]) ∧ Below W.heap.size W w' := by
  have hr' := Lib.hid hr
  clear hr
  obtain ⟨vk, vn, vs, vp, vnp, vcp, vq, vnq, vcq⟩ := v
  obtain ⟨uk, un, us, up, unp, ucp, uq, unq, ucq⟩ := u
  simp only [V5.v, V5.cs] at hk hi hp hr' ⊢
  subst hk hp
  have hiz : (i : Int) < (vnp : Int) := by omega
  have k1 := Blk.new W #[.int .i64 6, .int .i64 vn, .string vs, .slice (some ⟨g, o, none⟩) vnp vcp, .slice vq vnq vcq] 39
  have k2 : Blk ((W.alloc (.cells #[.int .i64 6, .int .i64 vn, .string vs, .slice (some ⟨g, o, none⟩) vnp vcp, .slice vq vnq vcq] 39)).alloc (.cells zero5.cs 39)) (W.heap.size + 1) zero5.cs 39 := Blk.new' (by simp)
  have hu' := Lib.hid hu
  clear hu
  go_enter Tryd.func57, Tryd.ntmps57
  go_wp2_with (go_at_call 31; refine (hr'.out _ (by go_grown)).mono ?_; rintro e w1 ⟨rfl, hb1⟩; have hbw := Below.after (show Below W.heap.size W _ from by go_grown) hb1 (by go_size); have z1 := hb1.size; simp only [World.size_alloc] at z1; have kk1 := (k1.alloc _).kept hb1; have kk2 := k2.kept hb1; have r0 := kk2.cell 0; have r1 := kk2.cell 1; have r2 := kk2.cell 2; have r3 := kk2.cell 3; have r4 := kk2.cell 4; have f0 := kk2.frozen 0; have f1 := kk2.frozen 1; have f2 := kk2.frozen 2; have f3 := kk2.frozen 3; have f4 := kk2.frozen 4; have x3 := kk1.cell 3; simp at r0 r1 r2 r3 r4 x3; obtain ⟨y0, y1, y2, y3, y4⟩ := KidAt.c (hu'.out.below hbw hgl))
  refine bodyPost_ret (v := .tuple #[.agg #[.int .i64 uk, .int .i64 un, .string us, .slice up unp ucp, .slice uq unq ucq], .bool true]) (by simp [results, Tryd.results57, go_sem, *]) rfl ⟨rfl, ?_⟩
  exact Below.set (Below.set (Below.set (Below.set (Below.set hbw (by omega) _) (by omega) _) (by omega) _) (by omega) _) (by omega) _

set_option maxRecDepth 100000 in
set_option maxHeartbeats 4000000 in
theorem kid_no {W : World} (v : V5) :
    Calls Tryd.prog 57 #[v.v, .int .i64 6, .int .i64 (-1)] W fun e w' => e = .returned (.tuple #[zero5.v, .bool false]) ∧ Below W.heap.size W w' := by
  obtain ⟨vk, vn, vs, vp, vnp, vcp, vq, vnq, vcq⟩ := v
  simp only [V5.v, V5.cs]
  by_cases h6 : vk = 6
  · subst h6
    go_enter Tryd.func57, Tryd.ntmps57
    go_wp2_with fail
    refine bodyPost_ret (v := .tuple #[zero5.v, .bool false]) (by simp [results, Tryd.results57, go_sem, *]) rfl ⟨rfl, ?_⟩
    go_grown
  · have hd : decide (vk ≠ 6) = true := by simpa using h6
    go_enter Tryd.func57, Tryd.ntmps57
    go_wp2_with fail
    refine bodyPost_ret (v := .tuple #[zero5.v, .bool false]) (by simp [results, Tryd.results57, go_sem, *]) rfl ⟨rfl, ?_⟩
    go_grown

set_option maxRecDepth 100000 in
set_option maxHeartbeats 4000000 in
theorem get_yes {W : World} (v u : V5) (key : ByteArray) (i : Int)
    (hp : ∀ W', Below W.heap.size W W' → Calls Tryd.prog 58 #[.slice v.q v.nq v.cq, .string key] W' fun e w' => e = .returned (.int .i64 i) ∧ Below W'.heap.size W' w')
    (hk : ∀ W', Below W.heap.size W W' → Calls Tryd.prog 57 #[v.v, .int .i64 6, .int .i64 i] W' fun e w' => e = .returned (.tuple #[u.v, .bool true]) ∧ Below W'.heap.size W' w') :
    Calls Tryd.prog 35 #[v.v, .string key] W fun e w' => e = .returned (.tuple #[u.v, .bool true]) ∧ Below W.heap.size W w' := by
  obtain ⟨vk, vn, vs, vp, vnp, vcp, vq, vnq, vcq⟩ := v
  obtain ⟨uk, un, us, up, unp, ucp, uq, unq, ucq⟩ := u
  simp only [V5.v, V5.cs] at hp hk ⊢
  have kb1 : Blk ((W.alloc (.cells #[.int .i64 vk, .int .i64 vn, .string vs, .slice vp vnp vcp, .slice vq vnq vcq] 39)).alloc (.cells zero5.cs 39)) W.heap.size #[.int .i64 vk, .int .i64 vn, .string vs, .slice vp vnp vcp, .slice vq vnq vcq] 39 := (Blk.new W _ _).alloc _
  have rbk : Blk ((W.alloc (.cells #[.int .i64 vk, .int .i64 vn, .string vs, .slice vp vnp vcp, .slice vq vnq vcq] 39)).alloc (.cells zero5.cs 39)) (W.heap.size + 1) zero5.cs 39 := Blk.new' (by simp)
  have hWq : Below W.heap.size W ((W.alloc (.cells #[.int .i64 vk, .int .i64 vn, .string vs, .slice vp vnp vcp, .slice vq vnq vcq] 39)).alloc (.cells zero5.cs 39)) := by go_grown
  have zq : W.heap.size + 1 < ((W.alloc (.cells #[.int .i64 vk, .int .i64 vn, .string vs, .slice vp vnp vcp, .slice vq vnq vcq] 39)).alloc (.cells zero5.cs 39)).heap.size := rbk.lt
  have hp' := Lib.hid hp
  have hk' := Lib.hid hk
  clear hp hk
  go_enter Tryd.func35, Tryd.ntmps35
  go_upto_region 1 with fail
  generalize (W.alloc (.cells #[.int .i64 vk, .int .i64 vn, .string vs, .slice vp vnp vcp, .slice vq vnq vcq] 39)).alloc (.cells zero5.cs 39) = wq at *
  have hpl := Lib.hid (fun W' (hb : Below wq.heap.size wq W') => hp'.out W' (hWq.trans (hb.mono hWq.size)))
  have hkid := Lib.hid (fun W' (hb : Below wq.heap.size wq W') => hk'.out W' (hWq.trans (hb.mono hWq.size)))
  have hS2 := Lib.hid (show ∀ w', Below wq.heap.size wq w' → Hold W.heap.size #[.int .i64 vk, .int .i64 vn, .string vs, .slice vp vnp vcp, .slice vq vnq vcq] 39 w' from fun w' hb => Hold.mk' (kb1.kept hb))
  have L0 : Below wq.heap.size wq wq.drew := Below.drew (Below.refl _ _)
  have hW := Lib.hid hWq
  clear hp' hk'
  refine wp_region_z (S := fun _ => True) (S2 := fun w' => Hold W.heap.size #[.int .i64 vk, .int .i64 vn, .string vs, .slice vp vnp vcp, .slice vq vnq vcq] 39 w') 8 (by kernel_rfl) trivial (hS2.out _ L0) (fun hHeld hTwo => ?_)
  refine wpAnyZ_take2 (i := 0) (oi := { dst := some 6, op := _, type := _, pos := _, after := _, guard := _ }) (v := ?_) rfl (by kernel_rfl) (by kernel_rfl) (by kernel_rfl) (by kernel_rfl) (fun _ _ _ h => h) (Or.inl ⟨by kernel_rfl, ?_⟩) ⟨hTwo, .inr hHeld⟩ ?_
  rotate_left
  · intro w hSw; (try dsimp only at hSw); go_simp; (try with_reducible rfl)
  (try simp only [Act.put, List.setIfInBounds_toArray, List.set_cons_zero, List.set_cons_succ])
  refine wpAnyZ_take2 (i := 1) (oi := { dst := some 7, op := _, type := _, pos := _, after := _, guard := _ }) (v := ?_) rfl (by kernel_rfl) (by kernel_rfl) (by kernel_rfl) (by kernel_rfl) (fun _ _ _ h => h) (Or.inl ⟨by kernel_rfl, ?_⟩) ⟨hTwo, .inr hHeld⟩ ?_
  rotate_left
  · intro w hSw; (try dsimp only at hSw); go_simp; (try with_reducible rfl)
  (try simp only [Act.put, List.setIfInBounds_toArray, List.set_cons_zero, List.set_cons_succ])
  refine wpAnyZ_take2 (i := 2) (oi := { dst := some 8, op := _, type := _, pos := _, after := _, guard := _ }) (v := ?_) rfl (by kernel_rfl) (by kernel_rfl) (by kernel_rfl) (by kernel_rfl) (fun _ _ _ h => h) (Or.inl ⟨by kernel_rfl, ?_⟩) ⟨hTwo, .inr hHeld⟩ ?_
  rotate_left
  · intro w hSw; (try dsimp only at hSw); go_simp; (try with_reducible rfl)
  (try simp only [Act.put, List.setIfInBounds_toArray, List.set_cons_zero, List.set_cons_succ])
  refine wpAnyZ_take2 (i := 3) (oi := { dst := some 9, op := _, type := _, pos := _, after := _, guard := _ }) (v := ?_) rfl (by kernel_rfl) (by kernel_rfl) (by kernel_rfl) (by kernel_rfl) (fun _ _ _ h => h) (Or.inl ⟨by kernel_rfl, ?_⟩) ⟨hTwo, .inr hHeld⟩ ?_
  rotate_left
  · intro w hSw; (try dsimp only at hSw); go_simp; (try with_reducible rfl)
  (try simp only [Act.put, List.setIfInBounds_toArray, List.set_cons_zero, List.set_cons_succ])
  refine wpAnyZ_ready (rs := [4]) (by kernel_rfl) (by simp) ?_
  refine AllReadyZ.cons (o := { dst := some 10, op := _, type := _, pos := _, after := _, guard := _ }) rfl ?_ ?_
  · intro K hK
    go_simp
    refine (hpl.out _ L0).mono ?_
    rintro e w1 ⟨rfl, hb1⟩
    have z1 := hb1.size
    (try simp only [World.size_drew] at z1)
    have L1 := Below.after L0 hb1 L0.size
    refine hK.out _ _ trivial (hS2.out _ L1) (fun hHeld hTwo => ?_)
    clear hK K
    (try simp only [Act.put, List.setIfInBounds_toArray, List.set_cons_zero, List.set_cons_succ])
    refine wpAnyZ_ready (rs := [5]) (by kernel_rfl) (by simp) ?_
    refine AllReadyZ.cons (o := { dst := some 11, op := _, type := _, pos := _, after := _, guard := _ }) rfl ?_ ?_
    · intro K hK
      go_simp
      refine (hkid.out _ L1).mono ?_
      rintro e w2 ⟨rfl, hb2⟩
      have z2 := hb2.size
      have L2 := Below.after L1 hb2 L1.size
      refine hK.out _ _ trivial (hS2.out _ L2) (fun hHeld hTwo => ?_)
      clear hK K
      (try simp only [Act.put, List.setIfInBounds_toArray, List.set_cons_zero, List.set_cons_succ])
      refine wpAnyZ_take2 (i := 6) (oi := { dst := some 12, op := _, type := _, pos := _, after := _, guard := _ }) (v := ?_) rfl (by kernel_rfl) (by kernel_rfl) (by kernel_rfl) (by kernel_rfl) (fun _ _ _ h => h) (Or.inl ⟨by kernel_rfl, ?_⟩) ⟨hTwo, .inr hHeld⟩ ?_
      rotate_left
      · intro w hSw; (try dsimp only at hSw); go_simp; (try with_reducible rfl)
      (try simp only [Act.put, List.setIfInBounds_toArray, List.set_cons_zero, List.set_cons_succ])
      refine wpAnyZ_take2 (i := 7) (oi := { dst := some 13, op := _, type := _, pos := _, after := _, guard := _ }) (v := ?_) rfl (by kernel_rfl) (by kernel_rfl) (by kernel_rfl) (by kernel_rfl) (fun _ _ _ h => h) (Or.inl ⟨by kernel_rfl, ?_⟩) ⟨hTwo, .inr hHeld⟩ ?_
      rotate_left
      · intro w hSw; (try dsimp only at hSw); go_simp; (try with_reducible rfl)
      (try simp only [Act.put, List.setIfInBounds_toArray, List.set_cons_zero, List.set_cons_succ])
      refine wpAnyZ_ready (rs := [8]) (by kernel_rfl) (by simp) ?_
      refine AllReadyZ.cons' (o := { dst := none, op := _, type := _, pos := _, after := _, guard := _ }) rfl (by kernel_rfl) ?_ ?_
      · intro K hK
        have rb2 := rbk.below L2 (by omega)
        have r0 := rb2.cell 0
        have f0 := rb2.frozen 0
        have r1 := rb2.cell 1
        have f1 := rb2.frozen 1
        have r2 := rb2.cell 2
        have f2 := rb2.frozen 2
        have r3 := rb2.cell 3
        have f3 := rb2.frozen 3
        have r4 := rb2.cell 4
        have f4 := rb2.frozen 4
        simp at r0 r1 r2 r3 r4
        go_simp
        refine hK.out _ _ (Hold.off (Hold.off (Hold.off (Hold.off (Hold.off hTwo _ (by omega)) _ (by omega)) _ (by omega)) _ (by omega)) _ (by omega)) ?_
        replace hTwo := Hold.off (Hold.off (Hold.off (Hold.off (Hold.off hTwo (b' := W.heap.size + 1) (o := 0) (.int .i64 uk) (by omega)) (b' := W.heap.size + 1) (o := 1) (.int .i64 un) (by omega)) (b' := W.heap.size + 1) (o := 2) (.string us) (by omega)) (b' := W.heap.size + 1) (o := 3) (.slice up unp ucp) (by omega)) (b' := W.heap.size + 1) (o := 4) (.slice uq unq ucq) (by omega)
        clear hK K
        (try simp only [Act.put, List.setIfInBounds_toArray, List.set_cons_zero, List.set_cons_succ])
        refine wpAnyZ_take2 (i := 9) (oi := { dst := some 5, op := _, type := _, pos := _, after := _, guard := _ }) (v := ?_) rfl (by kernel_rfl) (by kernel_rfl) (by kernel_rfl) (by kernel_rfl) (fun _ _ _ h => h) (Or.inl ⟨by kernel_rfl, ?_⟩) ⟨hTwo, .inl (by kernel_rfl)⟩ ?_
        rotate_left
        · intro w hSw; (try dsimp only at hSw); go_simp; (try with_reducible rfl)
        (try simp only [Act.put, List.setIfInBounds_toArray, List.set_cons_zero, List.set_cons_succ])
        refine wpAnyZ_done (by kernel_rfl) ?_ _
        go_wp2_with fail
        refine bodyPost_ret (v := .tuple #[.agg #[.int .i64 uk, .int .i64 un, .string us, .slice up unp ucp, .slice uq unq ucq], .bool true]) (by simp [results, Tryd.results35, go_sem, *]) rfl ⟨rfl, ?_⟩
        exact Below.set (Below.set (Below.set (Below.set (Below.set (hW.out.trans (L2.mono (by omega))) (by omega) _) (by omega) _) (by omega) _) (by omega) _) (by omega) _
      exact AllReadyZ.nil
    exact AllReadyZ.nil
  exact AllReadyZ.nil

set_option maxRecDepth 100000 in
set_option maxHeartbeats 4000000 in
theorem get_no {W : World} (v : V5) (key : ByteArray) (i : Int)
    (hp : ∀ W', Below W.heap.size W W' → Calls Tryd.prog 58 #[.slice v.q v.nq v.cq, .string key] W' fun e w' => e = .returned (.int .i64 i) ∧ Below W'.heap.size W' w')
    (hk : ∀ W', Below W.heap.size W W' → Calls Tryd.prog 57 #[v.v, .int .i64 6, .int .i64 i] W' fun e w' => e = .returned (.tuple #[zero5.v, .bool false]) ∧ Below W'.heap.size W' w') :
    Calls Tryd.prog 35 #[v.v, .string key] W fun e w' => e = .returned (.tuple #[zero5.v, .bool false]) ∧ Below W.heap.size W w' := by
  obtain ⟨vk, vn, vs, vp, vnp, vcp, vq, vnq, vcq⟩ := v
  simp only [V5.v, V5.cs] at hp hk ⊢
  have kb1 : Blk ((W.alloc (.cells #[.int .i64 vk, .int .i64 vn, .string vs, .slice vp vnp vcp, .slice vq vnq vcq] 39)).alloc (.cells zero5.cs 39)) W.heap.size #[.int .i64 vk, .int .i64 vn, .string vs, .slice vp vnp vcp, .slice vq vnq vcq] 39 := (Blk.new W _ _).alloc _
  have rbk : Blk ((W.alloc (.cells #[.int .i64 vk, .int .i64 vn, .string vs, .slice vp vnp vcp, .slice vq vnq vcq] 39)).alloc (.cells zero5.cs 39)) (W.heap.size + 1) zero5.cs 39 := Blk.new' (by simp)
  have hWq : Below W.heap.size W ((W.alloc (.cells #[.int .i64 vk, .int .i64 vn, .string vs, .slice vp vnp vcp, .slice vq vnq vcq] 39)).alloc (.cells zero5.cs 39)) := by go_grown
  have zq : W.heap.size + 1 < ((W.alloc (.cells #[.int .i64 vk, .int .i64 vn, .string vs, .slice vp vnp vcp, .slice vq vnq vcq] 39)).alloc (.cells zero5.cs 39)).heap.size := rbk.lt
  have hp' := Lib.hid hp
  have hk' := Lib.hid hk
  clear hp hk
  go_enter Tryd.func35, Tryd.ntmps35
  go_upto_region 1 with fail
  generalize (W.alloc (.cells #[.int .i64 vk, .int .i64 vn, .string vs, .slice vp vnp vcp, .slice vq vnq vcq] 39)).alloc (.cells zero5.cs 39) = wq at *
  have hpl := Lib.hid (fun W' (hb : Below wq.heap.size wq W') => hp'.out W' (hWq.trans (hb.mono hWq.size)))
  have hkid := Lib.hid (fun W' (hb : Below wq.heap.size wq W') => hk'.out W' (hWq.trans (hb.mono hWq.size)))
  have hS2 := Lib.hid (show ∀ w', Below wq.heap.size wq w' → Hold W.heap.size #[.int .i64 vk, .int .i64 vn, .string vs, .slice vp vnp vcp, .slice vq vnq vcq] 39 w' from fun w' hb => Hold.mk' (kb1.kept hb))
  have L0 : Below wq.heap.size wq wq.drew := Below.drew (Below.refl _ _)
  have hW := Lib.hid hWq
  clear hp' hk'
  refine wp_region_z (S := fun _ => True) (S2 := fun w' => Hold W.heap.size #[.int .i64 vk, .int .i64 vn, .string vs, .slice vp vnp vcp, .slice vq vnq vcq] 39 w') 8 (by kernel_rfl) trivial (hS2.out _ L0) (fun hHeld hTwo => ?_)
  refine wpAnyZ_take2 (i := 0) (oi := { dst := some 6, op := _, type := _, pos := _, after := _, guard := _ }) (v := ?_) rfl (by kernel_rfl) (by kernel_rfl) (by kernel_rfl) (by kernel_rfl) (fun _ _ _ h => h) (Or.inl ⟨by kernel_rfl, ?_⟩) ⟨hTwo, .inr hHeld⟩ ?_
  rotate_left
  · intro w hSw; (try dsimp only at hSw); go_simp; (try with_reducible rfl)
  (try simp only [Act.put, List.setIfInBounds_toArray, List.set_cons_zero, List.set_cons_succ])
  refine wpAnyZ_take2 (i := 1) (oi := { dst := some 7, op := _, type := _, pos := _, after := _, guard := _ }) (v := ?_) rfl (by kernel_rfl) (by kernel_rfl) (by kernel_rfl) (by kernel_rfl) (fun _ _ _ h => h) (Or.inl ⟨by kernel_rfl, ?_⟩) ⟨hTwo, .inr hHeld⟩ ?_
  rotate_left
  · intro w hSw; (try dsimp only at hSw); go_simp; (try with_reducible rfl)
  (try simp only [Act.put, List.setIfInBounds_toArray, List.set_cons_zero, List.set_cons_succ])
  refine wpAnyZ_take2 (i := 2) (oi := { dst := some 8, op := _, type := _, pos := _, after := _, guard := _ }) (v := ?_) rfl (by kernel_rfl) (by kernel_rfl) (by kernel_rfl) (by kernel_rfl) (fun _ _ _ h => h) (Or.inl ⟨by kernel_rfl, ?_⟩) ⟨hTwo, .inr hHeld⟩ ?_
  rotate_left
  · intro w hSw; (try dsimp only at hSw); go_simp; (try with_reducible rfl)
  (try simp only [Act.put, List.setIfInBounds_toArray, List.set_cons_zero, List.set_cons_succ])
  refine wpAnyZ_take2 (i := 3) (oi := { dst := some 9, op := _, type := _, pos := _, after := _, guard := _ }) (v := ?_) rfl (by kernel_rfl) (by kernel_rfl) (by kernel_rfl) (by kernel_rfl) (fun _ _ _ h => h) (Or.inl ⟨by kernel_rfl, ?_⟩) ⟨hTwo, .inr hHeld⟩ ?_
  rotate_left
  · intro w hSw; (try dsimp only at hSw); go_simp; (try with_reducible rfl)
  (try simp only [Act.put, List.setIfInBounds_toArray, List.set_cons_zero, List.set_cons_succ])
  refine wpAnyZ_ready (rs := [4]) (by kernel_rfl) (by simp) ?_
  refine AllReadyZ.cons (o := { dst := some 10, op := _, type := _, pos := _, after := _, guard := _ }) rfl ?_ ?_
  · intro K hK
    go_simp
    refine (hpl.out _ L0).mono ?_
    rintro e w1 ⟨rfl, hb1⟩
    have z1 := hb1.size
    (try simp only [World.size_drew] at z1)
    have L1 := Below.after L0 hb1 L0.size
    refine hK.out _ _ trivial (hS2.out _ L1) (fun hHeld hTwo => ?_)
    clear hK K
    (try simp only [Act.put, List.setIfInBounds_toArray, List.set_cons_zero, List.set_cons_succ])
    refine wpAnyZ_ready (rs := [5]) (by kernel_rfl) (by simp) ?_
    refine AllReadyZ.cons (o := { dst := some 11, op := _, type := _, pos := _, after := _, guard := _ }) rfl ?_ ?_
    · intro K hK
      go_simp
      refine (hkid.out _ L1).mono ?_
      rintro e w2 ⟨rfl, hb2⟩
      have z2 := hb2.size
      have L2 := Below.after L1 hb2 L1.size
      refine hK.out _ _ trivial (hS2.out _ L2) (fun hHeld hTwo => ?_)
      clear hK K
      (try simp only [Act.put, List.setIfInBounds_toArray, List.set_cons_zero, List.set_cons_succ])
      refine wpAnyZ_take2 (i := 6) (oi := { dst := some 12, op := _, type := _, pos := _, after := _, guard := _ }) (v := ?_) rfl (by kernel_rfl) (by kernel_rfl) (by kernel_rfl) (by kernel_rfl) (fun _ _ _ h => h) (Or.inl ⟨by kernel_rfl, ?_⟩) ⟨hTwo, .inr hHeld⟩ ?_
      rotate_left
      · intro w hSw; (try dsimp only at hSw); go_simp; (try with_reducible rfl)
      (try simp only [Act.put, List.setIfInBounds_toArray, List.set_cons_zero, List.set_cons_succ])
      refine wpAnyZ_take2 (i := 7) (oi := { dst := some 13, op := _, type := _, pos := _, after := _, guard := _ }) (v := ?_) rfl (by kernel_rfl) (by kernel_rfl) (by kernel_rfl) (by kernel_rfl) (fun _ _ _ h => h) (Or.inl ⟨by kernel_rfl, ?_⟩) ⟨hTwo, .inr hHeld⟩ ?_
      rotate_left
      · intro w hSw; (try dsimp only at hSw); go_simp; (try with_reducible rfl)
      (try simp only [Act.put, List.setIfInBounds_toArray, List.set_cons_zero, List.set_cons_succ])
      refine wpAnyZ_ready (rs := [8]) (by kernel_rfl) (by simp) ?_
      refine AllReadyZ.cons' (o := { dst := none, op := _, type := _, pos := _, after := _, guard := _ }) rfl (by kernel_rfl) ?_ ?_
      · intro K hK
        have rb2 := rbk.below L2 (by omega)
        have r0 := rb2.cell 0
        have f0 := rb2.frozen 0
        have r1 := rb2.cell 1
        have f1 := rb2.frozen 1
        have r2 := rb2.cell 2
        have f2 := rb2.frozen 2
        have r3 := rb2.cell 3
        have f3 := rb2.frozen 3
        have r4 := rb2.cell 4
        have f4 := rb2.frozen 4
        simp at r0 r1 r2 r3 r4
        go_simp
        refine hK.out _ _ (Hold.off (Hold.off (Hold.off (Hold.off (Hold.off hTwo _ (by omega)) _ (by omega)) _ (by omega)) _ (by omega)) _ (by omega)) ?_
        replace hTwo := Hold.off (Hold.off (Hold.off (Hold.off (Hold.off hTwo (b' := W.heap.size + 1) (o := 0) (.int .i64 0) (by omega)) (b' := W.heap.size + 1) (o := 1) (.int .i64 0) (by omega)) (b' := W.heap.size + 1) (o := 2) (.string ⟨#[]⟩) (by omega)) (b' := W.heap.size + 1) (o := 3) (.slice none 0 0) (by omega)) (b' := W.heap.size + 1) (o := 4) (.slice none 0 0) (by omega)
        clear hK K
        (try simp only [Act.put, List.setIfInBounds_toArray, List.set_cons_zero, List.set_cons_succ])
        refine wpAnyZ_take2 (i := 9) (oi := { dst := some 5, op := _, type := _, pos := _, after := _, guard := _ }) (v := ?_) rfl (by kernel_rfl) (by kernel_rfl) (by kernel_rfl) (by kernel_rfl) (fun _ _ _ h => h) (Or.inl ⟨by kernel_rfl, ?_⟩) ⟨hTwo, .inl (by kernel_rfl)⟩ ?_
        rotate_left
        · intro w hSw; (try dsimp only at hSw); go_simp; (try with_reducible rfl)
        (try simp only [Act.put, List.setIfInBounds_toArray, List.set_cons_zero, List.set_cons_succ])
        refine wpAnyZ_done (by kernel_rfl) ?_ _
        go_wp2_with fail
        refine bodyPost_ret (v := .tuple #[zero5.v, .bool false]) (by simp [results, Tryd.results35, go_sem, *]) rfl ⟨rfl, ?_⟩
        exact Below.set (Below.set (Below.set (Below.set (Below.set (hW.out.trans (L2.mono (by omega))) (by omega) _) (by omega) _) (by omega) _) (by omega) _) (by omega) _
      exact AllReadyZ.nil
    exact AllReadyZ.nil
  exact AllReadyZ.nil

end Go.Proofs.YtmleipmilmeclaaDoor
