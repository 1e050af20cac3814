/- What is handed in: a value's reading, as a tree that lies. -/
import Derived.Test.YtmleipmilmeclaaDoorXVe
import Derived.Test.YtmleipmilmeclaaDoorRows
import Derived.Deep.Slices
import Derived.ChangeArms
import Derived.Test.YtmleipmilmeclaaDoorXTd
import Derived.Test.YtmleipmilmeclaaDoorXSa
namespace Go.Proofs.YtmleipmilmeclaaDoor
open Go.RowKit Go.ChangeShapes Go.WideShapes

section
variable {H : Type}
theorem bulk_pos (d : DataW H) : 1 ≤ Rows.uptoBulk d := by
  cases d with
  | lit l => cases l <;> simp [Rows.uptoBulk]
  | _ => simp [Rows.uptoBulk]
theorem bulk_mem : ∀ {l : List (DataW H)} {d : DataW H}, d ∈ l → Rows.uptoBulk d ≤ Rows.uptoBulkAll l
  | e :: r, d, h => by
    rw [Rows.uptoBulkAll]
    rcases List.mem_cons.1 h with rfl | h
    · omega
    · have := bulk_mem h; omega
theorem bulk_len : ∀ (l : List (DataW H)), l.length ≤ Rows.uptoBulkAll l
  | [] => by simp [Rows.uptoBulkAll]
  | d :: r => by
    rw [Rows.uptoBulkAll, List.length_cons]
    have := bulk_len r
    have := bulk_pos d
    omega
theorem bulk_str (s : ByteArray) : Rows.uptoBulk (.lit (.string s.data.toList) : DataW H) = s.size + 1 := by
  rw [Rows.uptoBulk, Array.length_toList]; rfl
end

theorem cellsT : Tryd.prog.cellsOf 39 = 5 ∧ Tryd.prog.cellsOf 56 = 6 ∧ Tryd.prog.cellsOf 9 = 1 ∧ Tryd.prog.cellsOf 3 = 1 ∧ Tryd.prog.cellsOf 2 = 1 ∧ Tryd.prog.cellsOf 36 = 1 ∧ Tryd.prog.cellsOf 37 = 1 :=
  ⟨by kernel_rfl, by kernel_rfl, by kernel_rfl, by kernel_rfl, by kernel_rfl, by kernel_rfl, by kernel_rfl⟩

section
variable {H : Type} {enc : TypeId × Value → H} {w : World}

/-- An address that a cell lies behind is a plain one. -/
theorem addr_plain {w : World} {a : Addr} {v : Value} (h : w.cell? a = some v) : a = ⟨a.block, a.off, none⟩ ∧ a.block < w.heap.size := by
  obtain ⟨b, o, sp⟩ := a
  have : sp = none := World.cell?_spot h
  subst this
  exact ⟨rfl, World.block_lt_of_cell? w _ h⟩

/-- A row of strings. -/
theorem open_keys {fuel : Nat} {c : Value} {y : DataW H × List MemPlace} (h : DataW.trod enc Tryd.prog w 0 (fun _ => true) true fuel 37 [c] = some y) :
    ∃ q nq cq, c = .slice q nq cq ∧ ∃ ks : List ByteArray, ks.length = nq ∧ (∀ k ∈ ks, k.size < Rows.uptoBulk y.1) ∧ nq < Rows.uptoBulk y.1 ∧
      (ks = [] ∨ ∃ b o, q = some ⟨b, o, none⟩ ∧ b < w.heap.size ∧ ∀ i (hi : i < ks.length), w.cell? ⟨b, o + i, none⟩ = some (.string ks[i])) := by
  obtain ⟨_, _, c9, _⟩ := cellsT
  rcases DataW.trod_slice Tryd.underlying37 h with ⟨hc, rfl⟩ | ⟨a, len, cap, elems, rest, n, rfl, hc, rfl, _, hle, _, hlen, hel, _, _⟩
  · obtain rfl : c = .slice none 0 0 := by simpa using hc
    exact ⟨none, 0, 0, rfl, [], rfl, by simp, by simp [Rows.uptoBulk], .inl rfl⟩
  · obtain rfl : c = .slice (some a) len cap := by simpa using hc
    have hb : Rows.uptoBulkAll (elems.map (·.1)) < Rows.uptoBulk (DataW.slice (elems.map (·.1)) (rest.map (·.1))) := by rw [Rows.uptoBulk]; omega
    have hl := bulk_len (elems.map (·.1))
    rw [List.length_map, hlen] at hl
    obtain ⟨K, hK⟩ := Deep.choose_lt (α := ByteArray) (n := len) (p := fun i k => w.cell? (a.add i) = some (.string k) ∧ k.size < Rows.uptoBulkAll (elems.map (·.1))) (fun i hi => by
      have he := hel i hi
      rw [List.getElem?_eq_getElem (by omega), c9, Nat.mul_one] at he
      obtain ⟨cs', h1, h2⟩ := Option.bind_eq_some_iff.1 he
      obtain ⟨s, rfl, hx, _⟩ := DataW.trod_string Tryd.underlying9 h2
      obtain ⟨_, _, hc⟩ := World.cells?_some h1
      have hc0 := hc 0 (by omega)
      refine ⟨s, by simpa [Addr.add] using hc0, ?_⟩
      have hm := bulk_mem (List.mem_map_of_mem (f := (·.1)) (List.getElem_mem (l := elems) (n := i) (by omega)))
      rw [hx] at hm
      have := bulk_str (H := H) s
      simp only at hm
      omega)
    refine ⟨some a, len, cap, rfl, (List.range len).map K, by simp, ?_, by dsimp only; omega, ?_⟩
    · intro k hk
      obtain ⟨i, hi, rfl⟩ := List.mem_map.1 hk
      have := (hK i (List.mem_range.1 hi)).2
      dsimp only
      omega
    · rcases Nat.eq_zero_or_pos len with rfl | hp
      · exact .inl rfl
      · right
        have h0 := (hK 0 hp).1
        obtain ⟨e, hlt⟩ := addr_plain h0
        simp only [Addr.add, if_pos] at e hlt
        refine ⟨a.block, a.off, by rw [← e], hlt, fun i hi => ?_⟩
        simp only [List.length_map, List.length_range] at hi
        have hi' := (hK i hi).1
        rw [e, Addr.add_lit] at hi'
        rw [hi']
        simp

theorem Lay.mono' {W : World} {h h' : Nat} {v : V5} {t : T} (hh : h ≤ h') (hl : Lay W h v t) : Lay W h' v t := Lay.mono hh hl

instance : Inhabited T := ⟨.mk 0 0 ⟨#[]⟩ [] []⟩

set_option maxRecDepth 100000 in
theorem open_val : ∀ (fuel : Nat) (cs : List Value) (y : DataW H × List MemPlace), DataW.trod enc Tryd.prog w 0 (fun _ => true) true fuel 39 cs = some y → Rows.uptoBulk y.1 ≤ 1048576 →
    ∃ v t, cs = v.cs.toList ∧ Lay w (Rows.uptoBulk y.1) v t := by
  intro fuel
  induction fuel using Nat.strongRecOn with
  | ind fuel ih =>
  intro cs y h hbulk
  obtain ⟨c39, _, c9, c3, c2, c36, c37⟩ := cellsT
  obtain ⟨xs, n, rfl, rfl, hl, hlen, hf⟩ := DataW.trod_struct Tryd.underlying39 h
  rw [c39] at hl
  match cs, hl with
  | [x0, x1, x2, x3, x4], _ =>
  match xs, hlen with
  | [y0, y1, y2, y3, y4], _ =>
  have f0 : DataW.trod enc Tryd.prog w 0 (fun _ => true) true n 3 [x0] = some y0 := by have : DataW.trod enc Tryd.prog w 0 (fun _ => true) true n 3 (List.take (Tryd.prog.cellsOf 3) (List.drop 0 [x0, x1, x2, x3, x4])) = some y0 := hf 0 ⟨ "Kind", 3, 0, false, "", "", 0⟩ rfl; rw [c3] at this; exact this
  have f1 : DataW.trod enc Tryd.prog w 0 (fun _ => true) true n 2 [x1] = some y1 := by have : DataW.trod enc Tryd.prog w 0 (fun _ => true) true n 2 (List.take (Tryd.prog.cellsOf 2) (List.drop 1 [x0, x1, x2, x3, x4])) = some y1 := hf 1 ⟨ "N", 2, 1, false, "", "", 8⟩ rfl; rw [c2] at this; exact this
  have f2 : DataW.trod enc Tryd.prog w 0 (fun _ => true) true n 9 [x2] = some y2 := by have : DataW.trod enc Tryd.prog w 0 (fun _ => true) true n 9 (List.take (Tryd.prog.cellsOf 9) (List.drop 2 [x0, x1, x2, x3, x4])) = some y2 := hf 2 ⟨ "S", 9, 2, false, "", "", 16⟩ rfl; rw [c9] at this; exact this
  have f3 : DataW.trod enc Tryd.prog w 0 (fun _ => true) true n 36 [x3] = some y3 := by have : DataW.trod enc Tryd.prog w 0 (fun _ => true) true n 36 (List.take (Tryd.prog.cellsOf 36) (List.drop 3 [x0, x1, x2, x3, x4])) = some y3 := hf 3 ⟨ "Kids", 36, 3, false, "", "", 32⟩ rfl; rw [c36] at this; exact this
  have f4 : DataW.trod enc Tryd.prog w 0 (fun _ => true) true n 37 [x4] = some y4 := by have : DataW.trod enc Tryd.prog w 0 (fun _ => true) true n 37 (List.take (Tryd.prog.cellsOf 37) (List.drop 4 [x0, x1, x2, x3, x4])) = some y4 := hf 4 ⟨ "Keys", 37, 4, false, "", "", 56⟩ rfl; rw [c37] at this; exact this
  obtain ⟨k, e0, -, -⟩ := DataW.trod_int Tryd.underlying3 f0
  obtain ⟨m, e1, -, -⟩ := DataW.trod_int Tryd.underlying2 f1
  obtain ⟨s, e2, rfl, -⟩ := DataW.trod_string Tryd.underlying9 f2
  obtain ⟨q, nq, cq, rfl, ks, hk1, hk2, hk3, hk4⟩ := open_keys f4
  obtain rfl : x0 = .int .i64 k := by simpa using e0
  obtain rfl : x1 = .int .i64 m := by simpa using e1
  obtain rfl : x2 = .string s := by simpa using e2
  have hs := bulk_str (H := H) s
  have hB : ∀ a b c d e : DataW H, Rows.uptoBulk (DataW.agg [a, b, c, d, e]) = Rows.uptoBulk a + (Rows.uptoBulk b + (Rows.uptoBulk c + (Rows.uptoBulk d + (Rows.uptoBulk e + 0)))) + 1 := by
    intros; simp [Rows.uptoBulk, Rows.uptoBulkAll]
  simp only [List.map_cons, List.map_nil] at hbulk ⊢
  rw [hB] at hbulk ⊢
  rcases DataW.trod_slice Tryd.underlying36 f3 with ⟨hc, rfl⟩ | ⟨a, len, cap, elems, rest, n', rfl, hc, rfl, _, hle, _, hlen', hel, _, _⟩
  · obtain rfl : x3 = .slice none 0 0 := by simpa using hc
    refine ⟨⟨k, m, s, none, 0, 0, q, nq, cq⟩, .mk k m s ks [], rfl, ?_⟩
    refine ⟨⟨rfl, rfl, rfl, hk1.symm, rfl, ?_, ?_, ?_, ?_⟩, hk4, .inl rfl⟩
    · simp only [T.s]; omega
    · intro x hx; have := hk2 x hx; omega
    · simp only [T.ks]; omega
    · simp [T.kids]
  · obtain rfl : x3 = .slice (some a) len cap := by simpa using hc
    have hb : Rows.uptoBulkAll (elems.map (·.1)) < Rows.uptoBulk (DataW.slice (elems.map (·.1)) (rest.map (·.1))) := by rw [Rows.uptoBulk]; omega
    simp only at hbulk ⊢
    generalize Rows.uptoBulk (DataW.slice (elems.map (·.1)) (rest.map (·.1))) = bs at *
    have hl := bulk_len (elems.map (·.1))
    rw [List.length_map, hlen'] at hl
    obtain ⟨hh, hhh⟩ : ∃ hh, hh = Rows.uptoBulk y0.1 + (Rows.uptoBulk y1.1 + (Rows.uptoBulk (DataW.lit (Lit.string s.data.toList) : DataW H) + (bs + (Rows.uptoBulk y4.1 + 0)))) := ⟨_, rfl⟩
    rw [← hhh]
    obtain ⟨K, hK⟩ := Deep.choose_lt (α := T) (n := len) (p := fun i t => ∃ u, KidAt w a.block (a.off + i * 5) u ∧ (∃ v, w.cell? (a.add (i * 5)) = some v) ∧ Lay w hh u t) (fun i hi => by
      have he := hel i hi
      rw [List.getElem?_eq_getElem (by omega), c39] at he
      obtain ⟨cs', h1, h2⟩ := Option.bind_eq_some_iff.1 he
      have hm := bulk_mem (List.mem_map_of_mem (f := (·.1)) (List.getElem_mem (l := elems) (n := i) (by omega)))
      obtain ⟨u, t, rfl, hlu⟩ := ih n' (by omega) cs' _ h2 (by omega)
      obtain ⟨_, _, hc⟩ := World.cells?_some h1
      have hc0 := hc 0 (by omega)
      have hc1 := hc 1 (by omega)
      have hc2 := hc 2 (by omega)
      have hc3 := hc 3 (by omega)
      have hc4 := hc 4 (by omega)
      obtain ⟨e, hlt⟩ := addr_plain (hc0.trans rfl)
      have ea : a.add (i * 5) = ⟨a.block, a.off + i * 5, none⟩ := by
        have e' : (a.add (i * 5)).add 0 = a.add (i * 5) := rfl
        rw [e'] at e
        rw [e]
        have b1 : (a.add (i * 5)).block = a.block := by unfold Addr.add; split <;> rfl
        have b2 : (a.add (i * 5)).off = a.off + i * 5 := by
          unfold Addr.add
          split
          · rename_i h0; rw [h0]; rfl
          · rfl
        rw [b1, b2]
      rw [ea, Addr.add_lit] at hc0 hc1 hc2 hc3 hc4
      refine ⟨t, u, ⟨hc0, hc1, hc2, hc3, hc4⟩, ⟨_, by rw [ea]; exact hc0⟩, Lay.mono (by omega) hlu⟩)
    refine ⟨⟨k, m, s, some a, len, cap, q, nq, cq⟩, .mk k m s ks ((List.range len).map K), rfl, ?_⟩
    refine ⟨⟨rfl, rfl, rfl, hk1.symm, by simp [T.kids], ?_, ?_, ?_, ?_⟩, hk4, ?_⟩
    · simp only [T.s]; omega
    · intro x hx; have := hk2 x hx; omega
    · simp only [T.ks]; omega
    · simp only [T.kids, List.length_map, List.length_range]; omega
    · rcases Nat.eq_zero_or_pos len with rfl | hp
      · exact .inl rfl
      · right
        obtain ⟨u, _, ⟨v, hv⟩, _⟩ := hK 0 hp
        obtain ⟨e, hlt⟩ := addr_plain hv
        rw [Nat.zero_mul] at e hlt
        simp only [Addr.add, if_pos] at e hlt
        refine ⟨a.block, a.off, by rw [← e], hlt, fun i hi => ?_⟩
        simp only [T.kids, List.length_map, List.length_range] at hi
        obtain ⟨u, h1, _, h3⟩ := hK i hi
        refine ⟨u, h1, ?_⟩
        simpa [T.kids] using h3

end
end Go.Proofs.YtmleipmilmeclaaDoor

/- What is handed in: a row of pairs. -/
namespace Go.Proofs.YtmleipmilmeclaaDoor
open Go.RowKit Go.ChangeShapes Go.WideShapes

section
variable {H : Type} {enc : TypeId × Value → H} {w : World}


set_option maxRecDepth 100000 in
theorem open_pair {fuel : Nat} {cs : List Value} {y : DataW H × List MemPlace} (h : DataW.trod enc Tryd.prog w 0 (fun _ => true) true fuel 56 cs = some y) (hb : Rows.uptoBulk y.1 ≤ 1048576) :
    ∃ x : PV, cs = encP x ∧ x.key.size < 1048576 ∧ ∃ t, Lay w 1048576 x.v t := by
  obtain ⟨c39, c56, c9, _⟩ := cellsT
  obtain ⟨y0, y1, n, rfl, hl, f0, f1⟩ := trod_struct2 Tryd.underlying56 h
  rw [c56] at hl
  match cs, hl with
  | [x0, x1, x2, x3, x4, x5], _ =>
  have g0 : DataW.trod enc Tryd.prog w 0 (fun _ => true) true n 9 [x0] = some y0 := by
    have : DataW.trod enc Tryd.prog w 0 (fun _ => true) true n 9 (List.take (Tryd.prog.cellsOf 9) (List.drop 0 [x0, x1, x2, x3, x4, x5])) = some y0 := f0
    rw [c9] at this; exact this
  have g1 : DataW.trod enc Tryd.prog w 0 (fun _ => true) true n 39 [x1, x2, x3, x4, x5] = some y1 := by
    have : DataW.trod enc Tryd.prog w 0 (fun _ => true) true n 39 (List.take (Tryd.prog.cellsOf 39) (List.drop 1 [x0, x1, x2, x3, x4, x5])) = some y1 := f1
    rw [c39] at this; exact this
  have hB : ∀ a b : DataW H, Rows.uptoBulk (DataW.agg [a, b]) = Rows.uptoBulk a + (Rows.uptoBulk b + 0) + 1 := by
    intros; simp [Rows.uptoBulk, Rows.uptoBulkAll]
  simp only at hb
  rw [hB] at hb
  obtain ⟨s, e0, rfl, -⟩ := DataW.trod_string Tryd.underlying9 g0
  obtain rfl : x0 = .string s := by simpa using e0
  have hs := bulk_str (H := H) s
  obtain ⟨v, t, e, hl⟩ := open_val n _ y1 g1 (by omega)
  refine ⟨⟨s, v⟩, ?_, by simp only at hb ⊢; omega, t, Lay.mono (by omega) hl⟩
  rw [e]
  rfl


set_option maxRecDepth 100000 in
theorem open_pairs {fuel : Nat} {c : Value} {y : DataW H × List MemPlace} (h : DataW.trod enc Tryd.prog w 0 (fun _ => true) true fuel 48 [c] = some y) (hb : Rows.uptoBulk y.1 ≤ 1048576) :
    ∃ p m cap, c = .slice p m cap ∧ m ≤ cap ∧ m < 1048576 ∧ (p = none → m = 0 ∧ cap = 0) ∧ ∃ ps : List PV, ps.length = m ∧ (∀ x ∈ ps, x.key.size < 1048576 ∧ ∃ t, Lay w 1048576 x.v t) ∧
      (0 < m → ∃ b o, p = some ⟨b, o, none⟩ ∧ b < w.heap.size ∧ ∀ i (hi : i < ps.length), ∀ j, j < 6 → w.cell? ⟨b, o + (i * 6 + j), none⟩ = (encP ps[i])[j]?) := by
  obtain ⟨c39, c56, c9, _⟩ := cellsT
  rcases DataW.trod_slice Tryd.underlying48 h with ⟨hc, rfl⟩ | ⟨a, len, cap, elems, rest, n, rfl, hc, rfl, _, hle, _, hlen, hel, _, _⟩
  · obtain rfl : c = .slice none 0 0 := by simpa using hc
    exact ⟨none, 0, 0, rfl, by omega, by omega, fun _ => ⟨rfl, rfl⟩, [], rfl, by simp, fun h => absurd h (by omega)⟩
  · obtain rfl : c = .slice (some a) len cap := by simpa using hc
    have hb2 : Rows.uptoBulkAll (elems.map (·.1)) < Rows.uptoBulk (DataW.slice (elems.map (·.1)) (rest.map (·.1))) := by rw [Rows.uptoBulk]; omega
    simp only at hb
    have hl := bulk_len (elems.map (·.1))
    rw [List.length_map, hlen] at hl
    obtain ⟨K, hK⟩ := Deep.choose_lt (α := PV) (n := len) (p := fun i x => (∀ j, j < 6 → w.cell? ((a.add (i * 6)).add j) = (encP x)[j]?) ∧ x.key.size < 1048576 ∧ ∃ t, Lay w 1048576 x.v t) (fun i hi => by
      have he := hel i hi
      rw [List.getElem?_eq_getElem (by omega), c56] at he
      obtain ⟨cs', h1, h2⟩ := Option.bind_eq_some_iff.1 he
      have hm := bulk_mem (List.mem_map_of_mem (f := (·.1)) (List.getElem_mem (l := elems) (n := i) (by omega)))
      obtain ⟨x, rfl, hx1, hx2⟩ := open_pair h2 (by omega)
      obtain ⟨_, _, hc⟩ := World.cells?_some h1
      exact ⟨x, hc, hx1, hx2⟩)
    refine ⟨some a, len, cap, rfl, hle, by omega, fun h => (by cases h), (List.range len).map K, by simp, ?_, fun hp => ?_⟩
    · intro x hx
      obtain ⟨i, hi, rfl⟩ := List.mem_map.1 hx
      exact (hK i (List.mem_range.1 hi)).2
    · have h0 := (hK 0 hp).1 0 (by omega)
      obtain ⟨e, hlt⟩ := addr_plain (h0.trans rfl)
      rw [Nat.zero_mul] at e hlt
      simp only [Addr.add, if_pos] at e hlt
      refine ⟨a.block, a.off, by rw [← e], hlt, fun i hi j hj => ?_⟩
      simp only [List.length_map, List.length_range] at hi
      have := (hK i hi).1 j hj
      rw [Deep.add_add, e, Addr.add_lit] at this
      rw [this]
      simp

end
end Go.Proofs.YtmleipmilmeclaaDoor
