/- The law of the constructors: its parts. -/
import Derived.Test.YtmleipmilmeclaaDoorXTf
import Derived.Test.YtmleipmilmeclaaDoorXTj
import Derived.Test.YtmleipmilmeclaaDoorXVm
namespace Go.Proofs.YtmleipmilmeclaaDoor
open Go.RowKit

theorem v5_inj {x y : V5} (h : x.v = y.v) : x = y := by
  obtain ⟨a1, a2, a3, a4, a5, a6, a7, a8, a9⟩ := x
  obtain ⟨b1, b2, b3, b4, b5, b6, b7, b8, b9⟩ := y
  simp only [V5.v, V5.cs, Value.agg.injEq, Array.mk.injEq, List.cons.injEq, Value.int.injEq, Value.string.injEq, Value.slice.injEq, true_and, and_true] at h
  obtain ⟨rfl, rfl, rfl, ⟨rfl, rfl, rfl⟩, rfl, rfl, rfl⟩ := h
  rfl

theorem tup_inj {x y : V5} {a b : Int} (h : (Ending.returned (.tuple #[x.v, .int .i64 a])) = .returned (.tuple #[y.v, .int .i64 b])) : x = y ∧ a = b := by
  simp only [Ending.returned.injEq, Value.tuple.injEq, Array.mk.injEq, List.cons.injEq, Value.int.injEq, true_and, and_true] at h
  exact ⟨v5_inj h.1, h.2⟩

theorem ObjOut.form {h : Nat} {tr : V5 → T} {ps : List PV} {e : Ending} {w : World} (o : ObjOut h tr ps e w) : ∃ (v : V5) (er : Int), e = .returned (.tuple #[v.v, .int .i64 er]) := by
  rcases o with ⟨_, rfl⟩ | ⟨L, _, _, ⟨_, v, rfl, _⟩ | ⟨_, rfl⟩⟩
  · exact ⟨_, _, rfl⟩
  · exact ⟨_, _, rfl⟩
  · exact ⟨_, _, rfl⟩

theorem ObjOut.below {h : Nat} {tr : V5 → T} {ps : List PV} {e : Ending} {w w' : World} (o : ObjOut h tr ps e w) (hb : Below w.heap.size w w') : ObjOut h tr ps e w' := by
  rcases o with o | ⟨L, h1, h2, ⟨h3, v, h4, h5⟩ | o⟩
  · exact .inl o
  · exact .inr ⟨L, h1, h2, .inl ⟨h3, v, h4, h5.below hb⟩⟩
  · exact .inr ⟨L, h1, h2, .inr o⟩

/-- Two makers of one object agree. -/
theorem ObjOut.both {h : Nat} {tr : V5 → T} {ps : List PV} {v1 v2 : V5} {a b : Int} {w : World} (o1 : ObjOut h tr ps (.returned (.tuple #[v1.v, .int .i64 a])) w) (o2 : ObjOut h tr ps (.returned (.tuple #[v2.v, .int .i64 b])) w) :
    b = a ∧ ((a = 0 ∧ ∃ t, RightT (h + 1) t ∧ Lay w (h + 1) v1 t ∧ Lay w (h + 1) v2 t) ∨ (a ≠ 0 ∧ v1 = zero5 ∧ v2 = zero5)) := by
  rcases o1 with ⟨hn, he⟩ | ⟨L, hp, hs, o1⟩
  · obtain ⟨rfl, rfl⟩ := tup_inj he
    rcases o2 with ⟨_, he2⟩ | ⟨L, hp, hs, _⟩
    · obtain ⟨rfl, rfl⟩ := tup_inj he2
      exact ⟨rfl, .inr ⟨by omega, rfl, rfl⟩⟩
    · exact absurd (((hp.map PV.key).nodup_iff).1 (sorted_nodup PV.key hs)) hn
  · rcases o2 with ⟨hn, _⟩ | ⟨L', hp', hs', o2⟩
    · exact absurd (((hp.map PV.key).nodup_iff).1 (sorted_nodup PV.key hs)) hn
    · obtain rfl : L = L' := sorted_unique PV.key hp hp' hs hs'
      rcases o1 with ⟨r1, v, he, hl⟩ | ⟨r1, he⟩
      · obtain ⟨rfl, rfl⟩ := tup_inj he
        rcases o2 with ⟨r2, v', he', hl'⟩ | ⟨r2, _⟩
        · obtain ⟨rfl, rfl⟩ := tup_inj he'
          exact ⟨rfl, .inl ⟨rfl, _, (rightT_iff _ _).1 r1, hl, hl'⟩⟩
        · rw [r1] at r2; cases r2
      · obtain ⟨rfl, rfl⟩ := tup_inj he
        rcases o2 with ⟨r2, _⟩ | ⟨_, he'⟩
        · rw [r1] at r2; cases r2
        · obtain ⟨rfl, rfl⟩ := tup_inj he'
          exact ⟨rfl, .inr ⟨by omega, rfl, rfl⟩⟩

/-- A list whose kids are a row of the call's own. -/
theorem lay_kids {w : World} {h B : Nat} {tr : V5 → T} {vs : List V5} {q : Option Addr} {n c : Nat} (hn : vs.length = n) (ho : w.ownsRow B 39 5 (.slice q n c) n (vs.flatMap c5)) (hv : ∀ x ∈ vs, Lay w h x (tr x)) (hnb : n < 1099511627776) :
    Lay w (h + 1) ⟨5, 0, ⟨#[]⟩, q, n, c, none, 0, 0⟩ (.mk 5 0 ⟨#[]⟩ [] (vs.map tr)) := by
  refine ⟨⟨rfl, rfl, rfl, rfl, by simp [T.kids, hn], ?_, ?_, ?_, ?_⟩, .inl rfl, ?_⟩
  · simp only [T.s]; decide
  · intro x hx; simp [T.ks] at hx
  · simp [T.ks]
  · simp only [T.kids, List.length_map]; omega
  · rcases Nat.eq_zero_or_pos n with h0 | h0
    · left; simp [T.kids, List.length_eq_zero_iff.1 (hn.trans h0)]
    · right
      obtain ⟨g, cap, e, _, hlt⟩ := ho.form h0
      simp only [Value.slice.injEq, true_and] at e
      obtain ⟨rfl, rfl⟩ := e
      refine ⟨g, 0, rfl, hlt, fun i hi => ?_⟩
      simp only [T.kids, List.length_map] at hi
      have hc : ∀ j, j < 5 → w.cell? ⟨g, 0 + i * 5 + j, none⟩ = (c5 vs[i])[j]? := fun j hj => by
        rw [Nat.zero_add, ho.cellAt (i * 5 + j) (by omega)]
        exact flat_get' c5 5 c5_len vs i hi j hj
      refine ⟨vs[i], ⟨hc 0 (by omega), hc 1 (by omega), hc 2 (by omega), hc 3 (by omega), hc 4 (by omega)⟩, ?_⟩
      have := hv vs[i] (List.getElem_mem hi)
      simpa [T.kids] using this

theorem valC_map (ps : List PV) : valC ps = (ps.map PV.v).flatMap c5 := by
  unfold valC
  rw [List.flatMap_map]

/-- A leaf is itself. -/
theorem leaf_same (k n : Int) (s : ByteArray) (hs : s.size < 1099511627776) (hk : k < 5) (ha : Al (.mk k n s [] [])) (W : World) :
    Calls Tryd.prog 16 #[(leaf5 k n s).v, (leaf5 k n s).v] W fun e w' => e = .returned (.bool true) ∧ Below W.heap.size W w' :=
  same_lay (leaf_lay W k n s hs) (leaf_lay W k n s hs) ((rightT_leaf k n s hk).2 ha)

theorem slice_hi48 (q : Option Addr) (len cap i : Nat) (h : i ≤ cap) (w : World) : (Instr.slice 48 (.slice q len cap) none (some (.int .i64 (i : Int))) none).run Tryd.prog w = .ok (.slice q i cap) w := by
  have hi : (0 : Int) ≤ (i : Int) ∧ (i : Int) ≤ (cap : Int) := by omega
  simp [Instr.slice, Instr.sliceBounds, Instr.sliceBound, go_sem, Tryd.underlying48, hi, run_underlying]
  intro hx; omega

/-- A row of pairs that came in, as a row that lies. -/
theorem lies_pairs {W : World} {p : Option Addr} {m k : Nat} {ps : List PV} (hm : ps.length = m) (hk : k ≤ m)
    (hP : 0 < m → ∃ b o, p = some ⟨b, o, none⟩ ∧ b < W.heap.size ∧ ∀ i (hi : i < ps.length), ∀ j, j < 6 → W.cell? ⟨b, o + (i * 6 + j), none⟩ = (encP ps[i])[j]?) :
    Lies W 6 p k ((ps.take k).flatMap encP) := by
  rcases Nat.eq_zero_or_pos k with rfl | h0
  · exact .inl ⟨rfl, by simp⟩
  · obtain ⟨b, o, rfl, _, hc⟩ := hP (by omega)
    have hl : (ps.take k).length = k := by rw [List.length_take]; omega
    refine .inr ⟨_, rfl, h0, by rw [flat_len' encP 6 encP_len, hl], fun j u hu => ?_⟩
    have hj : j < k * 6 := by
      have := (List.getElem?_eq_some_iff.1 hu).1
      rw [flat_len' encP 6 encP_len, hl] at this
      exact this
    have hi : j / 6 < k := by omega
    have h1 := flat_get' encP 6 encP_len (ps.take k) (j / 6) (by omega) (j % 6) (by omega)
    have e : j / 6 * 6 + j % 6 = j := by omega
    rw [e, hu, List.getElem_take] at h1
    have h2 := hc (j / 6) (by omega) (j % 6) (by omega)
    rw [e] at h2
    rw [Addr.add_lit, h2, ← h1]

end Go.Proofs.YtmleipmilmeclaaDoor
