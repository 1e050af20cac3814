/- Walk: value.Object, of pairs that lie. -/
import Derived.Test.YtmleipmilmeclaaDoorXTf
import Derived.Test.YtmleipmilmeclaaDoorXVm
namespace Go.Proofs.YtmleipmilmeclaaDoor
open Go.RowKit Go.Lib
attribute [local go_sem ↓] Go.wp_at_zero Go.wp_at_succ

theorem info9 : (Tryd.prog.info? 9).map (fun i => (i.zero, i.size, i.bytes)) = some (some (.string ⟨#[]⟩), 1, 16) := by kernel_rfl

theorem hold_grown {w w' : World} {b : Nat} {cs : Array Value} {T : TypeId} {row : Option Nat} (h : Hold b cs T w) (hg : w.grownBy w' row) (hne : some b ≠ row) : Hold b cs T w' := .mk' (Blk.grown h.1 hg hne)

/-- Two neighbours' keys, in a row. -/
def Apart (ds : List PV) (k : Nat) : Prop := ∀ j, j + 1 < k → (ds[j]?).map PV.key ≠ (ds[j + 1]?).map PV.key

structure ORel (w2 : World) (ds : List PV) (k : Nat) (kv pv : Value) (wr : World) : Prop where
  vb : Blk wr w2.heap.size #[.int .i64 6, .int .i64 0, .string ⟨#[]⟩, pv, kv] 39
  T : TwoR (w2.heap.size + 1) wr 9 1 kv k (keyC (ds.take k)) 39 5 pv k (valC (ds.take k))
  bl : Below w2.heap.size w2 wr
  di : Apart ds k

theorem ORel.next {w2 wr wb : World} {ds : List PV} {k : Nat} {kv pv kv' pv' : Value} {x : PV} (_ : ORel w2 ds k kv pv wr) (hk : k < ds.length) (hx : ds[k]? = some x)
    (T : TwoR (w2.heap.size + 1) wb 9 1 kv' (k + 1) (keyC (ds.take k) ++ [.string x.key]) 39 5 pv' (k + 1) (valC (ds.take k) ++ c5 x.v)) (L : Below w2.heap.size w2 wb)
    (hv : Blk wb w2.heap.size #[.int .i64 6, .int .i64 0, .string ⟨#[]⟩, pv, kv] 39) (hd : Apart ds (k + 1)) :
    ORel w2 ds (k + 1) kv' pv' ((wb.setCell ⟨w2.heap.size, 4, none⟩ kv').setCell ⟨w2.heap.size, 3, none⟩ pv') := by
  have e : ds[k] = x := by simpa [hk] using hx
  refine ⟨Blk.set (Blk.set hv 4 kv') 3 pv', ?_, Below.set (Below.set L (Nat.le_refl _) _) (Nat.le_refl _) _, hd⟩
  rw [keyC_snoc ds k hk, valC_snoc ds k hk, e]
  exact (T.set (by omega) _ _).set (by omega) _ _

theorem pw_of_apart {ds : List PV} (h : Apart ds ds.length) (hs : ∀ i j (hi : i < ds.length) (hj : j < ds.length), i < j → ¬ KL ds[j].key ds[i].key) : ds.Pairwise fun a b => KL a.key b.key := by
  rw [List.pairwise_iff_getElem]
  intro i j hi hj hij
  have h1 : KL ds[i].key ds[i + 1].key := by
    refine Classical.byContradiction fun hn => ?_
    have := KL.tri hn (hs i (i + 1) hi (by omega) (by omega))
    have h2 := h i (by omega)
    rw [List.getElem?_eq_getElem hi, List.getElem?_eq_getElem (by omega)] at h2
    exact h2 (by simp [this])
  rcases Nat.lt_or_ge (i + 1) j with hl | hl
  · refine Classical.byContradiction fun hn => ?_
    have h3 := hs (i + 1) j (by omega) hj hl
    by_cases h4 : KL ds[i + 1].key ds[j].key
    · exact hn (h1.trans h4)
    · have := KL.tri h4 h3
      rw [this] at h1
      exact hn h1
  · obtain rfl : j = i + 1 := by omega
    exact h1

theorem dup_of_eq {ds ps : List PV} (hp : ds.Perm ps) {k : Nat} {x y : PV} (hx : ds[k]? = some x) (hy : ds[k + 1]? = some y) (e : x.key = y.key) : ¬ (ps.map PV.key).Nodup := by
  intro hn
  have hn' := ((hp.map PV.key).nodup_iff).2 hn
  rw [List.nodup_iff_pairwise_ne, List.pairwise_iff_getElem] at hn'
  obtain ⟨h1, h1'⟩ := List.getElem?_eq_some_iff.1 hx
  obtain ⟨h2, h2'⟩ := List.getElem?_eq_some_iff.1 hy
  exact hn' k (k + 1) (by simpa using h1) (by simpa using h2) (by omega) (by simp [h1', h2', e])

theorem keys_beq (a b : ByteArray) : (a.toList == b.toList) = decide (a = b) := by
  rw [Bool.eq_iff_iff]
  simp [str_eq]

theorem own_slice {w : World} {base : Nat} {e : TypeId} {size : Nat} {v : Value} {n : Nat} {xs : List Value} (h : w.ownsRow base e size v n xs) : ∃ q cq, v = .slice q n cq := by
  rcases h.2 with ⟨rfl, rfl⟩ | ⟨g, cap, cur, rfl, _⟩
  · exact ⟨_, _, rfl⟩
  · exact ⟨_, _, rfl⟩

set_option maxRecDepth 1000000 in
set_option maxHeartbeats 8000000 in
theorem object_lay {W : World} {h : Nat} {tr : V5 → T} (ad : Addr) (c : Nat) (ps : List PV) (n : Nat) (hn : ps.length = n) (hl : Lies W 6 (some ad) n (ps.flatMap encP)) (hv : ∀ x ∈ ps, Lay W h x.v (tr x.v))
    (hks : ∀ x ∈ ps, x.key.size < 1099511627776) (hnb : n < 1073741824) (hh : h + 1 < 1099511627776) (hg : Gl W) :
    Calls Tryd.prog 17 #[.slice (some ad) n c] W fun e w' => ObjOut h tr ps e w' ∧ Below W.heap.size W w' := by
  have hclone := Lib.hid (fun W' (hb : Below W.heap.size W W') => clonePairs_any W' ad n c (ps.flatMap encP) (hl.below hb) (fun u hu => by obtain ⟨x, _, hx⟩ := List.mem_flatMap.1 hu; exact encP_one x u hx) (by omega))
  have hv' := Lib.hid hv
  have hks' := Lib.hid hks
  have hg' := Lib.hid hg
  have hglt := hg.lt
  clear hl hv hks hg
  go_enter Tryd.func17, Tryd.ntmps17
  go_wp2_with (first
    | (go_at_call 40; refine (hclone.out _ (by go_grown)).mono ?_; rintro e w1 ⟨g, cap, rfl, hown, hb1⟩; have hb1' : Below W.heap.size W w1 := Below.after (by go_grown) hb1 (by go_size); have hge := (own_lt hown (b := g) rfl).1; have zw1 := hb1'.size; simp only [World.size_alloc] at hge; have hrb := Lib.hid ((Blk.new W zero5.cs 39).kept hb1); have hsort := Lib.hid (sort_list hn hown (by omega)); have hglt1 := (own_lt hown (b := g) rfl).2; clear hown)
    | (go_at_call 41; refine hsort.out.mono ?_; rintro e w2 ⟨rfl, ds, hperm, hsorted, hcells, hbel⟩; have hb2 := hbel W.heap.size W hb1' (by omega); have hb12 := hbel g w1 (Below.refl _ _) (Nat.le_refl _); have hrb2 := Lib.hid (hrb.out.below hb12 (by omega)); have zw2 := hb12.size; have hperm' := Lib.hid hperm; have hsorted' := Lib.hid hsorted; have hcells' := Lib.hid hcells; clear hperm hsorted hcells hbel))
  have hdn : ds.length = n := by rw [hperm'.out.length_eq, hn]
  go_loopw [15] (fun i wr => ∃ (k : Nat) (kv pv : Value), i = .int .i64 (k : Int) ∧ k ≤ n ∧ ORel w2 ds k kv pv wr) (fun i _ => n - (intOf i).toNat)
  case atStart =>
    refine ⟨0, .slice none 0 0, .slice none 0 0, rfl, by omega, ?_, ⟨World.ownsRow_nil _ _ _ _, World.ownsRow_nil _ _ _ _, fun b hb => by simp [Value.ownBlock] at hb⟩, by go_grown, fun j hj => by omega⟩
    first | exact Blk.new _ _ _ | exact Blk.five (Blk.new _ _ _) _ _ _ _ _
  case round =>
    obtain ⟨k, kv, pv, rfl, hk, hrel⟩ := hrel
    have hO := Lib.hid hrel
    obtain ⟨vbk, T0', bl, di⟩ := hrel
    have zr := bl.size
    have zb := vbk.lt
    by_cases hlt : k < n
    · have hlz : (k : Int) < n := by omega
      have hklt : k < ds.length := by omega
      obtain ⟨x, hx⟩ : ∃ x, ds[k]? = some x := ⟨ds[k], by simp [hklt]⟩
      have gl : g < w2.heap.size := by omega
      have hcell : ∀ j, j < 6 → wr.cell? ⟨g, k * 6 + j, none⟩ = (encP x)[j]? := fun j hj => by
        rw [bl.cell (p := ⟨g, k * 6 + j, none⟩) gl, hcells'.out k hklt j hj]
        have : ds[k] = x := by simpa [hklt] using hx
        rw [this]
      have hxk := Lib.hid hx
      obtain ⟨key, ⟨vk, vn, vs, vp, vnp, vcp, vq, vnq, vcq⟩⟩ := x
      have y0 := hcell 0 (by omega)
      have y1 := hcell 1 (by omega)
      have y2 := hcell 2 (by omega)
      have y3 := hcell 3 (by omega)
      have y4 := hcell 4 (by omega)
      have y5 := hcell 5 (by omega)
      simp only [encP, Nat.add_zero, List.getElem?_cons_zero, List.getElem?_cons_succ] at y0 y1 y2 y3 y4 y5
      clear hcell hx
      go_upto_region 7 with fail
      have kp : Blk (wr.alloc (.cells #[.string key, .int .i64 vk, .int .i64 vn, .string vs, .slice vp vnp vcp, .slice vq vnq vcq] 56)) wr.heap.size #[.string key, .int .i64 vk, .int .i64 vn, .string vs, .slice vp vnp vcp, .slice vq vnq vcq] 56 := Blk.new _ _ _
      have blq : Below w2.heap.size w2 (wr.alloc (.cells #[.string key, .int .i64 vk, .int .i64 vn, .string vs, .slice vp vnp vcp, .slice vq vnq vcq] 56)) := bl.alloc zr _
      have Tq := T0'.alloc (.cells #[.string key, .int .i64 vk, .int .i64 vn, .string vs, .slice vp vnp vcp, .slice vq vnq vcq] 56)
      have vbq := vbk.alloc (.cells #[.string key, .int .i64 vk, .int .i64 vn, .string vs, .slice vp vnp vcp, .slice vq vnq vcq] 56)
      have zq : (wr.alloc (.cells #[.string key, .int .i64 vk, .int .i64 vn, .string vs, .slice vp vnp vcp, .slice vq vnq vcq] 56)).heap.size = wr.heap.size + 1 := by simp
      clear y0 y1 y2 y3 y4 y5 vbk bl
      generalize wr.alloc (.cells #[.string key, .int .i64 vk, .int .i64 vn, .string vs, .slice vp vnp vcp, .slice vq vnq vcq] 56) = wq at *
      have x0 := kp.cell 0
      have x1 := kp.cell 1
      have x2 := kp.cell 2
      have x3 := kp.cell 3
      have x4 := kp.cell 4
      have x5 := kp.cell 5
      simp at x0 x1 x2 x3 x4 x5
      go_cut [32] (fun v wx => ∃ b q, v = .bool b ∧ (b = true → ¬ (ps.map PV.key).Nodup) ∧ (b = false → Apart ds (k + 1)) ∧ wx = wq.drewN q)
      case first =>
        rcases Nat.eq_zero_or_pos k with hk0 | hk0
        · subst hk0
          go_quiet (fail)
          go_wp2_with fail
          go_meet
          exact ⟨false, nq, rfl, (fun h => by cases h), (fun _ j hj => by omega), rfl⟩
        · obtain ⟨kz, rfl⟩ : ∃ kz, k = kz + 1 := ⟨k - 1, by omega⟩
          obtain ⟨x', hx'⟩ : ∃ x, ds[kz]? = some x := ⟨ds[kz], by rw [List.getElem?_eq_getElem (by omega)]⟩
          have hp0 : wq.cell? ⟨g, kz * 6, none⟩ = some (.string x'.key) := by
            rw [blq.cell (p := ⟨g, kz * 6, none⟩) gl]
            have := hcells'.out kz (by omega) 0 (by omega)
            have e : ds[kz]'(by omega) = x' := by
              obtain ⟨_, h2⟩ := List.getElem?_eq_some_iff.1 hx'
              exact h2
            rw [e] at this
            exact this
          obtain ⟨pk, hpk⟩ : ∃ pk, pk = x'.key := ⟨_, rfl⟩
          rw [← hpk] at hp0
          have hq := keys_beq pk key
          have hdd := Lib.hid (fun e => dup_of_eq hperm'.out hx' hxk.out (hpk.symm.trans e))
          have hnn := Lib.hid (show pk ≠ key → Apart ds (kz + 1 + 1) from fun e j hj => by
            rcases Nat.lt_or_ge (j + 1) (kz + 1) with hl | hl
            · exact di j hl
            · obtain rfl : j = kz := by omega
              rw [hx', hxk.out]
              intro he
              simp only [Option.map_some, Option.some.injEq] at he
              exact e (hpk.trans he))
          clear hpk hx'
          have hwr : IntKind.i64.wrap (kz : Int) = (kz : Int) := by rw [IntKind.wrap_i64]; omega
          have hw0 : (0 : Int) ≤ (kz : Int) := by omega
          have hw1 : (kz : Int) < (n : Int) := by omega
          go_quiet (fail)
          go_wp2_with fail
          go_meet
          exact ⟨_, nq, rfl, (fun h => hdd.out (by simpa using h)), (fun h => hnn.out (by simpa using h)), rfl⟩
      case rest =>
        obtain ⟨b, q, rfl, hdup, hap, rfl⟩ := hcut
        cases b
        · have hdist := Lib.hid (hap rfl)
          clear hap hdup x0 x1 x2 x3 x4 x5
          have kp' : Blk (wq.drewN q) wr.heap.size #[.string key, .int .i64 vk, .int .i64 vn, .string vs, .slice vp vnp vcp, .slice vq vnq vcq] 56 := kp
          have L0' : Below w2.heap.size w2 (wq.drewN q) := ⟨blq.os, blq.tape, blq.output, blq.size, blq.block⟩
          have Tq' : TwoR (w2.heap.size + 1) (wq.drewN q) 9 1 kv k (keyC (ds.take k)) 39 5 pv k (valC (ds.take k)) := ⟨Tq.o1, Tq.o2, Tq.ne⟩
          have vbq' : Blk (wq.drewN q) w2.heap.size #[.int .i64 6, .int .i64 0, .string ⟨#[]⟩, pv, kv] 39 := vbq
          have zq' : (wq.drewN q).heap.size = wr.heap.size + 1 := zq
          have farK := Lib.hid (show ∀ b, wr.heap.size ≤ b → some b ≠ kv.ownBlock from fun b hb e => by have := (own_lt T0'.o1 e.symm).2; omega)
          have farP := Lib.hid (show ∀ b, wr.heap.size ≤ b → some b ≠ pv.ownBlock from fun b hb e => by have := (own_lt T0'.o2 e.symm).2; omega)
          have nearK := Lib.hid (show some w2.heap.size ≠ kv.ownBlock from fun e => by have := (own_lt T0'.o1 e.symm).1; omega)
          have nearP := Lib.hid (show some w2.heap.size ≠ pv.ownBlock from fun e => by have := (own_lt T0'.o2 e.symm).1; omega)
          have geK := Lib.hid (show ∀ b, kv.ownBlock = some b → w2.heap.size ≤ b from fun b e => by have := (own_lt T0'.o1 e).1; omega)
          have geP := Lib.hid (show ∀ b, pv.ownBlock = some b → w2.heap.size ≤ b from fun b e => by have := (own_lt T0'.o2 e).1; omega)
          obtain ⟨i0, hin, hz0, hz1, hz2⟩ := info_parts info39
          obtain ⟨i9, hin9, hz90, hz91, hz92⟩ := info_parts info9
          clear kp blq Tq vbq zq T0' di
          go_upto_region 9 with fail
          generalize wq.drewN q = wq at *
          have T0 := Tq'.drew
          have L0 := Below.drew L0'
          refine wp_region_z (S := fun w => Hold w2.heap.size #[.int .i64 6, .int .i64 0, .string ⟨#[]⟩, pv, kv] 39 w) (S2 := fun w => Hold wr.heap.size #[.string key, .int .i64 vk, .int .i64 vn, .string vs, .slice vp vnp vcp, .slice vq vnq vcq] 56 w) 13 (by kernel_rfl) (Hold.drew (Hold.mk' vbq')) (Hold.drew (Hold.mk' kp')) (fun hHeld hTwo => ?_)
          refine wpAnyZ_take2 (i := 0) (oi := { dst := some 34, op := _, type := _, pos := _, after := _, guard := _ }) (v := ?_) rfl (by kernel_rfl) (by kernel_rfl) (by kernel_rfl) (by kernel_rfl) (fun _ _ _ h => h) (Or.inl ⟨by kernel_rfl, ?_⟩) ⟨hTwo, .inr hHeld⟩ ?_
          rotate_left
          · intro w hSw; (try dsimp only at hSw); go_simp; (try with_reducible rfl)
          (try simp only [Act.put, List.setIfInBounds_toArray, List.set_cons_zero, List.set_cons_succ])
          refine wpAnyZ_take (i := 1) (oi := { dst := some 35, op := _, type := _, pos := _, after := _, guard := _ }) (v := ?_) rfl (by kernel_rfl) (by kernel_rfl) (by kernel_rfl) (by kernel_rfl) (fun _ _ _ h => h) (Or.inl ⟨by kernel_rfl, ?_⟩) hHeld hTwo ?_
          rotate_left
          · intro w hSw; obtain ⟨hSa, hSb⟩ := hSw; (try dsimp only at hSa); go_simp; (try with_reducible rfl)
          (try simp only [Act.put, List.setIfInBounds_toArray, List.set_cons_zero, List.set_cons_succ])
          refine wpAnyZ_take2 (i := 2) (oi := { dst := some 36, op := _, type := _, pos := _, after := _, guard := _ }) (v := ?_) rfl (by kernel_rfl) (by kernel_rfl) (by kernel_rfl) (by kernel_rfl) (fun _ _ _ h => h) (Or.inl ⟨by kernel_rfl, ?_⟩) ⟨hTwo, .inr hHeld⟩ ?_
          rotate_left
          · intro w hSw; (try dsimp only at hSw); go_simp; (try with_reducible rfl)
          (try simp only [Act.put, List.setIfInBounds_toArray, List.set_cons_zero, List.set_cons_succ])
          refine wpAnyZ_take2 (i := 3) (oi := { dst := some 37, op := _, type := _, pos := _, after := _, guard := _ }) (v := ?_) rfl (by kernel_rfl) (by kernel_rfl) (by kernel_rfl) (by kernel_rfl) (fun _ _ _ h => h) (Or.inl ⟨by kernel_rfl, ?_⟩) ⟨hTwo, .inr hHeld⟩ ?_
          rotate_left
          · intro w hSw; (try dsimp only at hSw); go_simp; (try with_reducible rfl)
          (try simp only [Act.put, List.setIfInBounds_toArray, List.set_cons_zero, List.set_cons_succ])
          refine wpAnyZ_take2 (i := 6) (oi := { dst := some 40, op := _, type := _, pos := _, after := _, guard := _ }) (v := ?_) rfl (by kernel_rfl) (by kernel_rfl) (by kernel_rfl) (by kernel_rfl) (fun _ _ _ h => h) (Or.inl ⟨by kernel_rfl, ?_⟩) ⟨hTwo, .inr hHeld⟩ ?_
          rotate_left
          · intro w hSw; (try dsimp only at hSw); go_simp; (try with_reducible rfl)
          (try simp only [Act.put, List.setIfInBounds_toArray, List.set_cons_zero, List.set_cons_succ])
          refine wpAnyZ_take (i := 7) (oi := { dst := some 41, op := _, type := _, pos := _, after := _, guard := _ }) (v := ?_) rfl (by kernel_rfl) (by kernel_rfl) (by kernel_rfl) (by kernel_rfl) (fun _ _ _ h => h) (Or.inl ⟨by kernel_rfl, ?_⟩) hHeld hTwo ?_
          rotate_left
          · intro w hSw; obtain ⟨hSa, hSb⟩ := hSw; (try dsimp only at hSa); go_simp; (try with_reducible rfl)
          (try simp only [Act.put, List.setIfInBounds_toArray, List.set_cons_zero, List.set_cons_succ])
          refine wpAnyZ_take2 (i := 8) (oi := { dst := some 42, op := _, type := _, pos := _, after := _, guard := _ }) (v := ?_) rfl (by kernel_rfl) (by kernel_rfl) (by kernel_rfl) (by kernel_rfl) (fun _ _ _ h => h) (Or.inl ⟨by kernel_rfl, ?_⟩) ⟨hTwo, .inr hHeld⟩ ?_
          rotate_left
          · intro w hSw; (try dsimp only at hSw); go_simp; (try with_reducible rfl)
          (try simp only [Act.put, List.setIfInBounds_toArray, List.set_cons_zero, List.set_cons_succ])
          refine wpAnyZ_take2 (i := 9) (oi := { dst := some 43, op := _, type := _, pos := _, after := _, guard := _ }) (v := ?_) rfl (by kernel_rfl) (by kernel_rfl) (by kernel_rfl) (by kernel_rfl) (fun _ _ _ h => h) (Or.inl ⟨by kernel_rfl, ?_⟩) ⟨hTwo, .inr hHeld⟩ ?_
          rotate_left
          · intro w hSw; (try dsimp only at hSw); go_simp; (try with_reducible rfl)
          (try simp only [Act.put, List.setIfInBounds_toArray, List.set_cons_zero, List.set_cons_succ])
          refine wpAnyZ_ready (rs := [4, 10]) (by kernel_rfl) (by simp) ?_
          refine AllReadyZ.cons (o := { dst := some 38, op := _, type := _, pos := _, after := _, guard := _ }) rfl ?_ ?_
          · intro K hK
            go_simp
            have T1 := T0.alloc (.cells #[.string key] 9)
            have L1 := L0.alloc (by go_size) (.cells #[.string key] 9)
            have kb1 : Blk (wq.drew.alloc (.cells #[.string key] 9)) (wr.heap.size + 1) #[.string key] 9 := Blk.new' (by simp [zq'])
            refine hK.out _ _ (Hold.alloc hHeld _) (Hold.alloc hTwo _) (fun hHeld hTwo => ?_)
            clear hK K
            (try simp only [Act.put, List.setIfInBounds_toArray, List.set_cons_zero, List.set_cons_succ])
            refine wpAnyZ_ready (rs := [5, 10]) (by kernel_rfl) (by simp) ?_
            refine AllReadyZ.cons (o := { dst := some 39, op := _, type := _, pos := _, after := _, guard := _ }) rfl ?_ ?_
            · intro K hK
              refine step_append_lies _ (by rfl) _ _ _ (by rfl) (w2.heap.size + 1) 9 i9 _ 1 16 Tryd.underlying37 hin9 hz90 hz91 hz92 rfl (by decide) kv k _ (by rfl) T1.o1 ⟨wr.heap.size + 1, 0, none⟩ 1 1 [.string key] (by rfl) (by rfl) (World.news_of_block kb1) (by simp [Value.oneCell']) (by decide) (by unfold maxLen; omega) (by omega) (by go_size) (wr.heap.size + 1 + 1) (by simp [zq']) ?_
              intro g1 cap1 wa hown1 hgrow1 hat1 hlt1
              have zz1 := hgrow1.size
              (try simp only [World.size_alloc, World.size_drew] at zz1)
              have T2 := T1.first hown1 hgrow1 (hat1.imp id fun e => e.trans (by simp [zq']))
              have L2 := Below.grown L1 hgrow1 (by go_size) (fun b hb => geK.out b hb)
              refine hK.out _ _ (hold_grown hHeld hgrow1 nearK.out) (hold_grown hTwo hgrow1 (farK.out _ (by omega))) (fun hHeld hTwo => ?_)
              clear hK K
              (try simp only [Act.put, List.setIfInBounds_toArray, List.set_cons_zero, List.set_cons_succ])
              refine wpAnyZ_take2 (i := 12) (oi := { dst := some 46, op := _, type := _, pos := _, after := _, guard := _ }) (v := ?_) rfl (by kernel_rfl) (by kernel_rfl) (by kernel_rfl) (by kernel_rfl) (fun _ _ _ h => h) (Or.inl ⟨by kernel_rfl, ?_⟩) ⟨hTwo, .inr hHeld⟩ ?_
              rotate_left
              · intro w hSw; (try dsimp only at hSw); go_simp; (try with_reducible rfl)
              (try simp only [Act.put, List.setIfInBounds_toArray, List.set_cons_zero, List.set_cons_succ])
              refine wpAnyZ_ready (rs := [10]) (by kernel_rfl) (by simp) ?_
              refine AllReadyZ.cons (o := { dst := some 44, op := _, type := _, pos := _, after := _, guard := _ }) rfl ?_ ?_
              · intro K hK
                go_simp
                have T3 := T2.alloc (.cells #[.int .i64 vk, .int .i64 vn, .string vs, .slice vp vnp vcp, .slice vq vnq vcq] 39)
                have L3 := L2.alloc (by go_size) (.cells #[.int .i64 vk, .int .i64 vn, .string vs, .slice vp vnp vcp, .slice vq vnq vcq] 39)
                have kb2 : Blk (wa.alloc (.cells #[.int .i64 vk, .int .i64 vn, .string vs, .slice vp vnp vcp, .slice vq vnq vcq] 39)) wa.heap.size #[.int .i64 vk, .int .i64 vn, .string vs, .slice vp vnp vcp, .slice vq vnq vcq] 39 := Blk.new _ _ _
                refine hK.out _ _ (Hold.alloc hHeld _) (Hold.alloc hTwo _) (fun hHeld hTwo => ?_)
                clear hK K
                (try simp only [Act.put, List.setIfInBounds_toArray, List.set_cons_zero, List.set_cons_succ])
                refine wpAnyZ_ready (rs := [11]) (by kernel_rfl) (by simp) ?_
                refine AllReadyZ.cons (o := { dst := some 45, op := _, type := _, pos := _, after := _, guard := _ }) rfl ?_ ?_
                · intro K hK
                  refine step_append_lies _ (by rfl) _ _ _ (by rfl) (w2.heap.size + 1) 39 i0 _ 5 80 Tryd.underlying36 hin hz0 hz1 hz2 rfl (by decide) pv k _ (by rfl) T3.o2 ⟨wa.heap.size, 0, none⟩ 1 1 [.int .i64 vk, .int .i64 vn, .string vs, .slice vp vnp vcp, .slice vq vnq vcq] (by rfl) (by rfl) (World.news_of_block kb2) (by simp [Value.oneCell']) (by decide) (by unfold maxLen; omega) (by omega) (by go_size) (wa.heap.size + 1) (by simp) ?_
                  intro g2 cap2 wb hown2 hgrow2 hat2 hlt2
                  have zz2 := hgrow2.size
                  (try simp only [World.size_alloc] at zz2)
                  have T4 := T3.second hown2 hgrow2 (hat2.imp id fun e => e.trans (by simp))
                  have L4 := Below.grown L3 hgrow2 (by go_size) (fun b hb => geP.out b hb)
                  refine hK.out _ _ (hold_grown hHeld hgrow2 nearP.out) (hold_grown hTwo hgrow2 (farP.out _ (by omega))) (fun hHeld hTwo => ?_)
                  clear hK K
                  (try simp only [Act.put, List.setIfInBounds_toArray, List.set_cons_zero, List.set_cons_succ])
                  refine wpAnyZ_ready (rs := [13]) (by kernel_rfl) (by simp) ?_
                  refine AllReadyZ.cons' (o := { dst := none, op := _, type := _, pos := _, after := _, guard := _ }) rfl (by kernel_rfl) ?_ ?_
                  · intro K hK
                    have f4 := hHeld.1.frozen 4
                    have e4 := hHeld.1.cell 4
                    simp at e4
                    go_simp
                    have kv4 := Blk.set hHeld.1 4 (.slice (some ⟨g1, 0, none⟩) (k + 1) cap1)
                    refine hK.out _ _ (Hold.off hTwo _ (by omega)) ?_
                    replace hTwo := Hold.off hTwo (b' := w2.heap.size) (o := 4) (.slice (some ⟨g1, 0, none⟩) (k + 1) cap1) (by omega)
                    clear hK K
                    (try simp only [Act.put, List.setIfInBounds_toArray, List.set_cons_zero, List.set_cons_succ])
                    refine wpAnyZ_take2 (i := 14) (oi := { dst := some 47, op := _, type := _, pos := _, after := _, guard := _ }) (v := ?_) rfl (by kernel_rfl) (by kernel_rfl) (by kernel_rfl) (by kernel_rfl) (fun _ _ _ h => h) (Or.inl ⟨by kernel_rfl, ?_⟩) ⟨hTwo, .inl (by kernel_rfl)⟩ ?_
                    rotate_left
                    · intro w hSw; (try dsimp only at hSw); go_simp; (try with_reducible rfl)
                    (try simp only [Act.put, List.setIfInBounds_toArray, List.set_cons_zero, List.set_cons_succ])
                    refine wpAnyZ_ready (rs := [15]) (by kernel_rfl) (by simp) ?_
                    refine AllReadyZ.cons' (o := { dst := none, op := _, type := _, pos := _, after := _, guard := _ }) rfl (by kernel_rfl) ?_ ?_
                    · intro K hK
                      have f3 := kv4.frozen 3
                      have e3 := kv4.cell 3
                      simp at e3
                      go_simp
                      refine hK.out _ _ (Hold.off hTwo _ (by omega)) ?_
                      clear hK K
                      (try simp only [Act.put, List.setIfInBounds_toArray, List.set_cons_zero, List.set_cons_succ])
                      refine wpAnyZ_done (by kernel_rfl) ?_ _
                      go_wp2_with fail
                      exact ⟨⟨k + 1, _, _, by simp, by omega, ORel.next hO.out hklt hxk.out T4 L4 hHeld.1 hdist.out⟩, by simp [intOf]; omega⟩
                    exact AllReadyZ.nil
                  exact AllReadyZ.nil
                exact AllReadyZ.nil
              exact AllReadyZ.nil
            refine AllReadyZ.cons (o := { dst := some 44, op := _, type := _, pos := _, after := _, guard := _ }) rfl ?_ ?_
            · intro K hK
              go_simp
              have T2 := T1.alloc (.cells #[.int .i64 vk, .int .i64 vn, .string vs, .slice vp vnp vcp, .slice vq vnq vcq] 39)
              have L2 := L1.alloc (by go_size) (.cells #[.int .i64 vk, .int .i64 vn, .string vs, .slice vp vnp vcp, .slice vq vnq vcq] 39)
              have kb2 : Blk ((wq.drew.alloc (.cells #[.string key] 9)).alloc (.cells #[.int .i64 vk, .int .i64 vn, .string vs, .slice vp vnp vcp, .slice vq vnq vcq] 39)) (wr.heap.size + 1 + 1) #[.int .i64 vk, .int .i64 vn, .string vs, .slice vp vnp vcp, .slice vq vnq vcq] 39 := Blk.new' (by simp [zq'])
              replace kb1 := kb1.alloc (.cells #[.int .i64 vk, .int .i64 vn, .string vs, .slice vp vnp vcp, .slice vq vnq vcq] 39)
              refine hK.out _ _ (Hold.alloc hHeld _) (Hold.alloc hTwo _) (fun hHeld hTwo => ?_)
              clear hK K
              (try simp only [Act.put, List.setIfInBounds_toArray, List.set_cons_zero, List.set_cons_succ])
              refine wpAnyZ_ready (rs := [5]) (by kernel_rfl) (by simp) ?_
              refine AllReadyZ.cons (o := { dst := some 39, op := _, type := _, pos := _, after := _, guard := _ }) rfl ?_ ?_
              · intro K hK
                refine step_append_lies _ (by rfl) _ _ _ (by rfl) (w2.heap.size + 1) 9 i9 _ 1 16 Tryd.underlying37 hin9 hz90 hz91 hz92 rfl (by decide) kv k _ (by rfl) T2.o1 ⟨wr.heap.size + 1, 0, none⟩ 1 1 [.string key] (by rfl) (by rfl) (World.news_of_block kb1) (by simp [Value.oneCell']) (by decide) (by unfold maxLen; omega) (by omega) (by go_size) (wr.heap.size + 1 + 1 + 1) (by simp [zq']) ?_
                intro g1 cap1 wa hown1 hgrow1 hat1 hlt1
                have zz1 := hgrow1.size
                (try simp only [World.size_alloc, World.size_drew] at zz1)
                have T3 := T2.first hown1 hgrow1 (hat1.imp id fun e => e.trans (by simp [zq']))
                have L3 := Below.grown L2 hgrow1 (by go_size) (fun b hb => geK.out b hb)
                replace kb2 := Blk.grown kb2 hgrow1 (farK.out _ (by omega))
                refine hK.out _ _ (hold_grown hHeld hgrow1 nearK.out) (hold_grown hTwo hgrow1 (farK.out _ (by omega))) (fun hHeld hTwo => ?_)
                clear hK K
                (try simp only [Act.put, List.setIfInBounds_toArray, List.set_cons_zero, List.set_cons_succ])
                refine wpAnyZ_take2 (i := 12) (oi := { dst := some 46, op := _, type := _, pos := _, after := _, guard := _ }) (v := ?_) rfl (by kernel_rfl) (by kernel_rfl) (by kernel_rfl) (by kernel_rfl) (fun _ _ _ h => h) (Or.inl ⟨by kernel_rfl, ?_⟩) ⟨hTwo, .inr hHeld⟩ ?_
                rotate_left
                · intro w hSw; (try dsimp only at hSw); go_simp; (try with_reducible rfl)
                (try simp only [Act.put, List.setIfInBounds_toArray, List.set_cons_zero, List.set_cons_succ])
                refine wpAnyZ_ready (rs := [11]) (by kernel_rfl) (by simp) ?_
                refine AllReadyZ.cons (o := { dst := some 45, op := _, type := _, pos := _, after := _, guard := _ }) rfl ?_ ?_
                · intro K hK
                  refine step_append_lies _ (by rfl) _ _ _ (by rfl) (w2.heap.size + 1) 39 i0 _ 5 80 Tryd.underlying36 hin hz0 hz1 hz2 rfl (by decide) pv k _ (by rfl) T3.o2 ⟨wr.heap.size + 1 + 1, 0, none⟩ 1 1 [.int .i64 vk, .int .i64 vn, .string vs, .slice vp vnp vcp, .slice vq vnq vcq] (by rfl) (by rfl) (World.news_of_block kb2) (by simp [Value.oneCell']) (by decide) (by unfold maxLen; omega) (by omega) (by go_size) (wa.heap.size) (by simp) ?_
                  intro g2 cap2 wb hown2 hgrow2 hat2 hlt2
                  have zz2 := hgrow2.size
                  (try simp only [World.size_alloc, World.size_drew] at zz2)
                  have T4 := T3.second hown2 hgrow2 (hat2.imp id fun e => e.trans (by simp))
                  have L4 := Below.grown L3 hgrow2 (by go_size) (fun b hb => geP.out b hb)
                  refine hK.out _ _ (hold_grown hHeld hgrow2 nearP.out) (hold_grown hTwo hgrow2 (farP.out _ (by omega))) (fun hHeld hTwo => ?_)
                  clear hK K
                  (try simp only [Act.put, List.setIfInBounds_toArray, List.set_cons_zero, List.set_cons_succ])
                  refine wpAnyZ_ready (rs := [13]) (by kernel_rfl) (by simp) ?_
                  refine AllReadyZ.cons' (o := { dst := none, op := _, type := _, pos := _, after := _, guard := _ }) rfl (by kernel_rfl) ?_ ?_
                  · intro K hK
                    have f4 := hHeld.1.frozen 4
                    have e4 := hHeld.1.cell 4
                    simp at e4
                    go_simp
                    have kv4 := Blk.set hHeld.1 4 (.slice (some ⟨g1, 0, none⟩) (k + 1) cap1)
                    refine hK.out _ _ (Hold.off hTwo _ (by omega)) ?_
                    replace hTwo := Hold.off hTwo (b' := w2.heap.size) (o := 4) (.slice (some ⟨g1, 0, none⟩) (k + 1) cap1) (by omega)
                    clear hK K
                    (try simp only [Act.put, List.setIfInBounds_toArray, List.set_cons_zero, List.set_cons_succ])
                    refine wpAnyZ_take2 (i := 14) (oi := { dst := some 47, op := _, type := _, pos := _, after := _, guard := _ }) (v := ?_) rfl (by kernel_rfl) (by kernel_rfl) (by kernel_rfl) (by kernel_rfl) (fun _ _ _ h => h) (Or.inl ⟨by kernel_rfl, ?_⟩) ⟨hTwo, .inl (by kernel_rfl)⟩ ?_
                    rotate_left
                    · intro w hSw; (try dsimp only at hSw); go_simp; (try with_reducible rfl)
                    (try simp only [Act.put, List.setIfInBounds_toArray, List.set_cons_zero, List.set_cons_succ])
                    refine wpAnyZ_ready (rs := [15]) (by kernel_rfl) (by simp) ?_
                    refine AllReadyZ.cons' (o := { dst := none, op := _, type := _, pos := _, after := _, guard := _ }) rfl (by kernel_rfl) ?_ ?_
                    · intro K hK
                      have f3 := kv4.frozen 3
                      have e3 := kv4.cell 3
                      simp at e3
                      go_simp
                      refine hK.out _ _ (Hold.off hTwo _ (by omega)) ?_
                      clear hK K
                      (try simp only [Act.put, List.setIfInBounds_toArray, List.set_cons_zero, List.set_cons_succ])
                      refine wpAnyZ_done (by kernel_rfl) ?_ _
                      go_wp2_with fail
                      exact ⟨⟨k + 1, _, _, by simp, by omega, ORel.next hO.out hklt hxk.out T4 L4 hHeld.1 hdist.out⟩, by simp [intOf]; omega⟩
                    exact AllReadyZ.nil
                  exact AllReadyZ.nil
                exact AllReadyZ.nil
              exact AllReadyZ.nil
            exact AllReadyZ.nil
          refine AllReadyZ.cons (o := { dst := some 44, op := _, type := _, pos := _, after := _, guard := _ }) rfl ?_ ?_
          · intro K hK
            go_simp
            have T1 := T0.alloc (.cells #[.int .i64 vk, .int .i64 vn, .string vs, .slice vp vnp vcp, .slice vq vnq vcq] 39)
            have L1 := L0.alloc (by go_size) (.cells #[.int .i64 vk, .int .i64 vn, .string vs, .slice vp vnp vcp, .slice vq vnq vcq] 39)
            have kb2 : Blk (wq.drew.alloc (.cells #[.int .i64 vk, .int .i64 vn, .string vs, .slice vp vnp vcp, .slice vq vnq vcq] 39)) (wr.heap.size + 1) #[.int .i64 vk, .int .i64 vn, .string vs, .slice vp vnp vcp, .slice vq vnq vcq] 39 := Blk.new' (by simp [zq'])
            refine hK.out _ _ (Hold.alloc hHeld _) (Hold.alloc hTwo _) (fun hHeld hTwo => ?_)
            clear hK K
            (try simp only [Act.put, List.setIfInBounds_toArray, List.set_cons_zero, List.set_cons_succ])
            refine wpAnyZ_ready (rs := [4]) (by kernel_rfl) (by simp) ?_
            refine AllReadyZ.cons (o := { dst := some 38, op := _, type := _, pos := _, after := _, guard := _ }) rfl ?_ ?_
            · intro K hK
              go_simp
              have T2 := T1.alloc (.cells #[.string key] 9)
              have L2 := L1.alloc (by go_size) (.cells #[.string key] 9)
              have kb1 : Blk ((wq.drew.alloc (.cells #[.int .i64 vk, .int .i64 vn, .string vs, .slice vp vnp vcp, .slice vq vnq vcq] 39)).alloc (.cells #[.string key] 9)) (wr.heap.size + 1 + 1) #[.string key] 9 := Blk.new' (by simp [zq'])
              replace kb2 := kb2.alloc (.cells #[.string key] 9)
              refine hK.out _ _ (Hold.alloc hHeld _) (Hold.alloc hTwo _) (fun hHeld hTwo => ?_)
              clear hK K
              (try simp only [Act.put, List.setIfInBounds_toArray, List.set_cons_zero, List.set_cons_succ])
              refine wpAnyZ_ready (rs := [5]) (by kernel_rfl) (by simp) ?_
              refine AllReadyZ.cons (o := { dst := some 39, op := _, type := _, pos := _, after := _, guard := _ }) rfl ?_ ?_
              · intro K hK
                refine step_append_lies _ (by rfl) _ _ _ (by rfl) (w2.heap.size + 1) 9 i9 _ 1 16 Tryd.underlying37 hin9 hz90 hz91 hz92 rfl (by decide) kv k _ (by rfl) T2.o1 ⟨wr.heap.size + 1 + 1, 0, none⟩ 1 1 [.string key] (by rfl) (by rfl) (World.news_of_block kb1) (by simp [Value.oneCell']) (by decide) (by unfold maxLen; omega) (by omega) (by go_size) (wr.heap.size + 1 + 1 + 1) (by simp [zq']) ?_
                intro g1 cap1 wa hown1 hgrow1 hat1 hlt1
                have zz1 := hgrow1.size
                (try simp only [World.size_alloc, World.size_drew] at zz1)
                have T3 := T2.first hown1 hgrow1 (hat1.imp id fun e => e.trans (by simp [zq']))
                have L3 := Below.grown L2 hgrow1 (by go_size) (fun b hb => geK.out b hb)
                replace kb2 := Blk.grown kb2 hgrow1 (farK.out _ (by omega))
                refine hK.out _ _ (hold_grown hHeld hgrow1 nearK.out) (hold_grown hTwo hgrow1 (farK.out _ (by omega))) (fun hHeld hTwo => ?_)
                clear hK K
                (try simp only [Act.put, List.setIfInBounds_toArray, List.set_cons_zero, List.set_cons_succ])
                refine wpAnyZ_take2 (i := 12) (oi := { dst := some 46, op := _, type := _, pos := _, after := _, guard := _ }) (v := ?_) rfl (by kernel_rfl) (by kernel_rfl) (by kernel_rfl) (by kernel_rfl) (fun _ _ _ h => h) (Or.inl ⟨by kernel_rfl, ?_⟩) ⟨hTwo, .inr hHeld⟩ ?_
                rotate_left
                · intro w hSw; (try dsimp only at hSw); go_simp; (try with_reducible rfl)
                (try simp only [Act.put, List.setIfInBounds_toArray, List.set_cons_zero, List.set_cons_succ])
                refine wpAnyZ_ready (rs := [11]) (by kernel_rfl) (by simp) ?_
                refine AllReadyZ.cons (o := { dst := some 45, op := _, type := _, pos := _, after := _, guard := _ }) rfl ?_ ?_
                · intro K hK
                  refine step_append_lies _ (by rfl) _ _ _ (by rfl) (w2.heap.size + 1) 39 i0 _ 5 80 Tryd.underlying36 hin hz0 hz1 hz2 rfl (by decide) pv k _ (by rfl) T3.o2 ⟨wr.heap.size + 1, 0, none⟩ 1 1 [.int .i64 vk, .int .i64 vn, .string vs, .slice vp vnp vcp, .slice vq vnq vcq] (by rfl) (by rfl) (World.news_of_block kb2) (by simp [Value.oneCell']) (by decide) (by unfold maxLen; omega) (by omega) (by go_size) (wa.heap.size) (by simp) ?_
                  intro g2 cap2 wb hown2 hgrow2 hat2 hlt2
                  have zz2 := hgrow2.size
                  (try simp only [World.size_alloc, World.size_drew] at zz2)
                  have T4 := T3.second hown2 hgrow2 (hat2.imp id fun e => e.trans (by simp))
                  have L4 := Below.grown L3 hgrow2 (by go_size) (fun b hb => geP.out b hb)
                  refine hK.out _ _ (hold_grown hHeld hgrow2 nearP.out) (hold_grown hTwo hgrow2 (farP.out _ (by omega))) (fun hHeld hTwo => ?_)
                  clear hK K
                  (try simp only [Act.put, List.setIfInBounds_toArray, List.set_cons_zero, List.set_cons_succ])
                  refine wpAnyZ_ready (rs := [13]) (by kernel_rfl) (by simp) ?_
                  refine AllReadyZ.cons' (o := { dst := none, op := _, type := _, pos := _, after := _, guard := _ }) rfl (by kernel_rfl) ?_ ?_
                  · intro K hK
                    have f4 := hHeld.1.frozen 4
                    have e4 := hHeld.1.cell 4
                    simp at e4
                    go_simp
                    have kv4 := Blk.set hHeld.1 4 (.slice (some ⟨g1, 0, none⟩) (k + 1) cap1)
                    refine hK.out _ _ (Hold.off hTwo _ (by omega)) ?_
                    replace hTwo := Hold.off hTwo (b' := w2.heap.size) (o := 4) (.slice (some ⟨g1, 0, none⟩) (k + 1) cap1) (by omega)
                    clear hK K
                    (try simp only [Act.put, List.setIfInBounds_toArray, List.set_cons_zero, List.set_cons_succ])
                    refine wpAnyZ_take2 (i := 14) (oi := { dst := some 47, op := _, type := _, pos := _, after := _, guard := _ }) (v := ?_) rfl (by kernel_rfl) (by kernel_rfl) (by kernel_rfl) (by kernel_rfl) (fun _ _ _ h => h) (Or.inl ⟨by kernel_rfl, ?_⟩) ⟨hTwo, .inl (by kernel_rfl)⟩ ?_
                    rotate_left
                    · intro w hSw; (try dsimp only at hSw); go_simp; (try with_reducible rfl)
                    (try simp only [Act.put, List.setIfInBounds_toArray, List.set_cons_zero, List.set_cons_succ])
                    refine wpAnyZ_ready (rs := [15]) (by kernel_rfl) (by simp) ?_
                    refine AllReadyZ.cons' (o := { dst := none, op := _, type := _, pos := _, after := _, guard := _ }) rfl (by kernel_rfl) ?_ ?_
                    · intro K hK
                      have f3 := kv4.frozen 3
                      have e3 := kv4.cell 3
                      simp at e3
                      go_simp
                      refine hK.out _ _ (Hold.off hTwo _ (by omega)) ?_
                      clear hK K
                      (try simp only [Act.put, List.setIfInBounds_toArray, List.set_cons_zero, List.set_cons_succ])
                      refine wpAnyZ_done (by kernel_rfl) ?_ _
                      go_wp2_with fail
                      exact ⟨⟨k + 1, _, _, by simp, by omega, ORel.next hO.out hklt hxk.out T4 L4 hHeld.1 hdist.out⟩, by simp [intOf]; omega⟩
                    exact AllReadyZ.nil
                  exact AllReadyZ.nil
                exact AllReadyZ.nil
              exact AllReadyZ.nil
            exact AllReadyZ.nil
          exact AllReadyZ.nil
        · have hdd := Lib.hid (hdup rfl)
          clear hap hdup x0 x1 x2 x3 x4 x5
          have rbq := hrb2.out.below blq (by omega)
          have r0 := rbq.cell 0
          have r1 := rbq.cell 1
          have r2 := rbq.cell 2
          have r3 := rbq.cell 3
          have r4 := rbq.cell 4
          have f0 := rbq.frozen 0
          have f1 := rbq.frozen 1
          have f2 := rbq.frozen 2
          have f3 := rbq.frozen 3
          have f4 := rbq.frozen 4
          simp at r0 r1 r2 r3 r4
          go_wp2_with fail
          refine bodyPost_ret (v := .tuple #[zero5.v, .int .i64 141]) (by simp [results, Tryd.results17, go_sem, *]) rfl ⟨.inl ⟨hdd.out, rfl⟩, ?_⟩
          have hbq0 := hb2.trans (blq.mono (show W.heap.size ≤ w2.heap.size by omega))
          have hbq : Below W.heap.size W (wq.drewN q) := ⟨hbq0.os, hbq0.tape, hbq0.output, hbq0.size, hbq0.block⟩
          exact Below.set (Below.set (Below.set (Below.set (Below.set hbq (by omega) _) (by omega) _) (by omega) _) (by omega) _) (by omega) _
    · obtain rfl : k = n := by omega
      have hlz : ¬((k : Int) < k) := by omega
      obtain ⟨q, cq, rfl⟩ := own_slice T0'.o1
      obtain ⟨p, cp, rfl⟩ := own_slice T0'.o2
      rw [List.take_of_length_le (by omega)] at T0'
      have hbW : Below W.heap.size W wr := hb2.trans (bl.mono (by omega))
      have hls := Lib.hid (fun x (hx : x ∈ ds) => hks'.out x (hperm'.out.mem_iff.1 hx))
      have hlay := Lib.hid (fun W' (hb : Below W.heap.size W W') x (hx : x ∈ ds) => (hv'.out x (hperm'.out.mem_iff.1 hx)).below hb)
      have hlo := lay_obj hdn T0' (hlay.out wr hbW) hls.out (by omega)
      have hwh := whole_lay hlo hh (hg'.out.below hbW hglt hbW.size)
      have hpw := Lib.hid (pw_of_apart (by rw [hdn]; exact di) hsorted'.out)
      have hT := Lib.hid T0'
      have rbq := hrb2.out.below bl (by omega)
      have x0 := vbk.cell 0
      have x1 := vbk.cell 1
      have x2 := vbk.cell 2
      have x3 := vbk.cell 3
      have x4 := vbk.cell 4
      simp at x0 x1 x2 x3 x4
      generalize hR : rightT (h + 1) (objT tr ds) = r at hwh
      have hR' := Lib.hid hR
      clear hR hlo hO di T0'
      simp only [V5.v, V5.cs] at hwh
      cases r
      all_goals
        simp only [Bool.false_eq_true, if_false, if_true] at hwh
        have hwh' := Lib.hid hwh
        clear hwh
        go_wp2_with (go_at_call 37; refine hwh'.out.mono ?_; rintro e w3 ⟨rfl, hb3⟩; have rb3 := rbq.kept hb3; have r0 := rb3.cell 0; have r1 := rb3.cell 1; have r2 := rb3.cell 2; have r3 := rb3.cell 3; have r4 := rb3.cell 4; have f0 := rb3.frozen 0; have f1 := rb3.frozen 1; have f2 := rb3.frozen 2; have f3 := rb3.frozen 3; have f4 := rb3.frozen 4; simp at r0 r1 r2 r3 r4; have zw3 := hb3.size)
        have hbW3 : Below W.heap.size W w3 := hbW.trans (hb3.mono (by omega))
      · refine bodyPost_ret (v := .tuple #[zero5.v, .int .i64 140]) (by simp [results, Tryd.results17, go_sem, *]) rfl ⟨.inr ⟨ds, hperm'.out, hpw.out, .inr ⟨hR'.out, rfl⟩⟩, ?_⟩
        exact Below.set (Below.set (Below.set (Below.set (Below.set hbW3 (by omega) _) (by omega) _) (by omega) _) (by omega) _) (by omega) _
      · refine bodyPost_ret (v := .tuple #[.agg #[.int .i64 6, .int .i64 0, .string ⟨#[]⟩, .slice p k cp, .slice q k cq], .int .i64 0]) (by simp [results, Tryd.results17, go_sem, *]) rfl ⟨.inr ⟨ds, hperm'.out, hpw.out, .inl ⟨hR'.out, ⟨6, 0, ⟨#[]⟩, p, k, cp, q, k, cq⟩, rfl, ?_⟩⟩, ?_⟩
        · refine lay_obj hdn ((((((hT.out.kept hb3).set (by omega) _ _).set (by omega) _ _).set (by omega) _ _).set (by omega) _ _).set (by omega) _ _) (hlay.out _ ?_) hls.out (by omega)
          exact Below.set (Below.set (Below.set (Below.set (Below.set hbW3 (by omega) _) (by omega) _) (by omega) _) (by omega) _) (by omega) _
        · exact Below.set (Below.set (Below.set (Below.set (Below.set hbW3 (by omega) _) (by omega) _) (by omega) _) (by omega) _) (by omega) _

end Go.Proofs.YtmleipmilmeclaaDoor
