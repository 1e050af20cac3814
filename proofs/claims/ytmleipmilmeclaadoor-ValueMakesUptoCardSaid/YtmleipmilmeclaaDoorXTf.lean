/- Two rows of the call's own; what an object's maker tells. -/
import Derived.Test.YtmleipmilmeclaaDoorXTd
import Derived.Test.YtmleipmilmeclaaDoorXTb
import Derived.Test.YtmleipmilmeclaaDoorXSj
import Derived.Test.YtmleipmilmeclaaDoorXOa
namespace Go.Proofs.YtmleipmilmeclaaDoor
open Go.Shelf Go.RowKit Go.Lib Go.Sort

/-- Two rows, apart. -/
structure TwoR (B : Nat) (w : World) (e1 s1 : Nat) (v1 : Value) (n1 : Nat) (x1 : List Value) (e2 s2 : Nat) (v2 : Value) (n2 : Nat) (x2 : List Value) : Prop where
  o1 : w.ownsRow B e1 s1 v1 n1 x1
  o2 : w.ownsRow B e2 s2 v2 n2 x2
  ne : ∀ b, v1.ownBlock = some b → v2.ownBlock ≠ some b

section
variable {B : Nat} {w w' : World} {e1 s1 e2 s2 : Nat} {v1 v2 : Value} {n1 n2 : Nat} {x1 x2 : List Value}
theorem TwoR.alloc (h : TwoR B w e1 s1 v1 n1 x1 e2 s2 v2 n2 x2) (o : Obj) : TwoR B (w.alloc o) e1 s1 v1 n1 x1 e2 s2 v2 n2 x2 := ⟨h.o1.alloc o, h.o2.alloc o, h.ne⟩
theorem TwoR.kept (h : TwoR B w e1 s1 v1 n1 x1 e2 s2 v2 n2 x2) (hb : Below w.heap.size w w') : TwoR B w' e1 s1 v1 n1 x1 e2 s2 v2 n2 x2 := ⟨own_after h.o1 hb, own_after h.o2 hb, h.ne⟩
theorem TwoR.drew (h : TwoR B w e1 s1 v1 n1 x1 e2 s2 v2 n2 x2) : TwoR B w.drew e1 s1 v1 n1 x1 e2 s2 v2 n2 x2 := h.kept ((Below.refl _ _).drew)
/-- A store into a block ahead of the rows. -/
theorem TwoR.set (h : TwoR B w e1 s1 v1 n1 x1 e2 s2 v2 n2 x2) {b : Nat} (hb : b < B) (o : Nat) (u : Value) : TwoR B (w.setCell ⟨b, o, none⟩ u) e1 s1 v1 n1 x1 e2 s2 v2 n2 x2 := by
  have k1 : v1.ownBlock = none ∨ v1.ownBlock ≠ some b := by
    rcases hv : v1.ownBlock with _ | g
    · exact .inl rfl
    · exact .inr fun e => by
        have := (own_lt h.o1 hv).1
        simp only [Option.some.injEq] at e
        omega
  have k2 : v2.ownBlock = none ∨ v2.ownBlock ≠ some b := by
    rcases hv : v2.ownBlock with _ | g
    · exact .inl rfl
    · exact .inr fun e => by
        have := (own_lt h.o2 hv).1
        simp only [Option.some.injEq] at e
        omega
  exact ⟨h.o1.kept (grownBy_set w b o u) k1, h.o2.kept (grownBy_set w b o u) k2, h.ne⟩

theorem TwoR.first (h : TwoR B w e1 s1 v1 n1 x1 e2 s2 v2 n2 x2) {g cap n : Nat} {news : List Value} (hown : w'.ownsRow B e1 s1 (.slice (some ⟨g, 0, none⟩) n cap) n news) (hgrow : w.grownBy w' v1.ownBlock)
    (hat : v1.ownBlock = some g ∨ g = w.heap.size) : TwoR B w' e1 s1 (.slice (some ⟨g, 0, none⟩) n cap) n news e2 s2 v2 n2 x2 := by
  refine ⟨hown, h.o2.kept hgrow ?_, fun b hb hb2 => ?_⟩
  · rcases hv : v2.ownBlock with _ | b
    · exact .inl rfl
    · exact .inr fun e => h.ne b e.symm hv
  · obtain rfl : g = b := by simpa [Value.ownBlock] using hb
    rcases hat with hat | hat
    · exact h.ne g hat hb2
    · have := (own_lt h.o2 hb2).2
      omega
theorem TwoR.second (h : TwoR B w e1 s1 v1 n1 x1 e2 s2 v2 n2 x2) {g cap n : Nat} {news : List Value} (hown : w'.ownsRow B e2 s2 (.slice (some ⟨g, 0, none⟩) n cap) n news) (hgrow : w.grownBy w' v2.ownBlock)
    (hat : v2.ownBlock = some g ∨ g = w.heap.size) : TwoR B w' e1 s1 v1 n1 x1 e2 s2 (.slice (some ⟨g, 0, none⟩) n cap) n news := by
  refine ⟨h.o1.kept hgrow ?_, hown, fun b hb hb2 => ?_⟩
  · rcases hv : v1.ownBlock with _ | b
    · exact .inl rfl
    · exact .inr fun e => h.ne b hv e.symm
  · obtain rfl : g = b := by simpa [Value.ownBlock] using hb2
    rcases hat with hat | hat
    · exact h.ne g hb hat
    · have := (own_lt h.o1 hb).2
      omega
theorem TwoR.ge1 (h : TwoR B w e1 s1 v1 n1 x1 e2 s2 v2 n2 x2) {b : Nat} (hb : b < B) : some b ≠ v1.ownBlock := fun e => by
  have := (own_lt h.o1 e.symm).1
  omega
theorem TwoR.ge2 (h : TwoR B w e1 s1 v1 n1 x1 e2 s2 v2 n2 x2) {b : Nat} (hb : b < B) : some b ≠ v2.ownBlock := fun e => by
  have := (own_lt h.o2 e.symm).1
  omega
end

/-- A value's cells. -/
def c5 (v : V5) : List Value := [.int .i64 v.k, .int .i64 v.n, .string v.s, .slice v.p v.np v.cp, .slice v.q v.nq v.cq]
theorem c5_len (v : V5) : (c5 v).length = 5 := rfl
theorem c5_one (v : V5) : ∀ u ∈ c5 v, u.oneCell' = true := fun u hu => by
  simp only [c5, List.mem_cons, List.not_mem_nil, or_false] at hu
  rcases hu with rfl | rfl | rfl | rfl | rfl <;> rfl
def keyC (L : List PV) : List Value := L.map fun x => .string x.key
def valC (L : List PV) : List Value := L.flatMap fun x => c5 x.v
theorem keyC_snoc (L : List PV) (k : Nat) (hk : k < L.length) : keyC (L.take (k + 1)) = keyC (L.take k) ++ [.string L[k].key] := by
  unfold keyC; rw [List.take_succ_eq_append_getElem hk, List.map_append, List.map_cons, List.map_nil]
theorem valC_snoc (L : List PV) (k : Nat) (hk : k < L.length) : valC (L.take (k + 1)) = valC (L.take k) ++ c5 L[k].v := by
  unfold valC; rw [List.take_succ_eq_append_getElem hk, List.flatMap_append, List.flatMap_cons, List.flatMap_nil, List.append_nil]

/-- The object of pairs that lie in order, as a tree. -/
def objT (tr : V5 → T) (L : List PV) : T := .mk 6 0 ⟨#[]⟩ (L.map (·.key)) (L.map fun x => tr x.v)

/-- What an object's maker tells of pairs. -/
def ObjOut (h : Nat) (tr : V5 → T) (ps : List PV) (e : Ending) (w' : World) : Prop :=
  (¬ (ps.map (·.key)).Nodup ∧ e = .returned (.tuple #[zero5.v, .int .i64 141])) ∨
  ∃ L, L.Perm ps ∧ L.Pairwise (fun a b => KL a.key b.key) ∧
    ((rightT (h + 1) (objT tr L) = true ∧ ∃ v, e = .returned (.tuple #[v.v, .int .i64 0]) ∧ Lay w' (h + 1) v (objT tr L)) ∨
     (rightT (h + 1) (objT tr L) = false ∧ e = .returned (.tuple #[zero5.v, .int .i64 140])))

/-- A value whose keys and kids are rows of the call's own. -/
theorem lay_obj {w : World} {h B : Nat} {tr : V5 → T} {L : List PV} {p q : Option Addr} {n cp cq : Nat} (hn : L.length = n)
    (T2 : TwoR B w 9 1 (.slice q n cq) n (keyC L) 39 5 (.slice p n cp) n (valC L)) (hv : ∀ x ∈ L, Lay w h x.v (tr x.v)) (hks : ∀ x ∈ L, x.key.size < 1099511627776) (hnb : n < 1099511627776) :
    Lay w (h + 1) ⟨6, 0, ⟨#[]⟩, p, n, cp, q, n, cq⟩ (objT tr L) := by
  refine ⟨⟨rfl, rfl, rfl, by simp [objT, T.ks, hn], by simp [objT, T.kids, hn], ?_, ?_, ?_, ?_⟩, ?_, ?_⟩
  · simp only [objT, T.s]; decide
  · intro x hx
    obtain ⟨y, hy, rfl⟩ := List.mem_map.1 (show x ∈ L.map (·.key) from hx)
    exact hks y hy
  · simp only [objT, T.ks, List.length_map]; omega
  · simp only [objT, T.kids, List.length_map]; omega
  · rcases Nat.eq_zero_or_pos n with h0 | h0
    · left; simp [objT, T.ks, List.length_eq_zero_iff.1 (hn.trans h0)]
    · right
      obtain ⟨g, cap, e, _, hlt⟩ := T2.o1.form h0
      simp only [Value.slice.injEq, true_and] at e
      obtain ⟨rfl, rfl⟩ := e
      refine ⟨g, 0, rfl, hlt, fun i hi => ?_⟩
      simp only [objT, T.ks, List.length_map] at hi
      rw [Nat.zero_add, T2.o1.cellAt i (by omega)]
      simp [keyC, objT, T.ks, hi]
  · rcases Nat.eq_zero_or_pos n with h0 | h0
    · left; simp [objT, T.kids, List.length_eq_zero_iff.1 (hn.trans h0)]
    · right
      obtain ⟨g, cap, e, _, hlt⟩ := T2.o2.form h0
      simp only [Value.slice.injEq, true_and] at e
      obtain ⟨rfl, rfl⟩ := e
      refine ⟨g, 0, rfl, hlt, fun i hi => ?_⟩
      simp only [objT, T.kids, List.length_map] at hi
      have hc : ∀ j, j < 5 → w.cell? ⟨g, 0 + i * 5 + j, none⟩ = (c5 L[i].v)[j]? := fun j hj => by
        rw [Nat.zero_add, T2.o2.cellAt (i * 5 + j) (by omega)]
        exact flat_get' (fun x => c5 x.v) 5 (fun x => c5_len _) L i hi j hj
      refine ⟨L[i].v, ⟨hc 0 (by omega), hc 1 (by omega), hc 2 (by omega), hc 3 (by omega), hc 4 (by omega)⟩, ?_⟩
      have := hv L[i] (List.getElem_mem hi)
      simpa [objT, T.kids] using this

/-- The sort, told of lists. -/
theorem sort_list {B e g n cap : Nat} {ds : List PV} {w1 : World} (hn : ds.length = n) (hown : w1.ownsRow B e 6 (.slice (some ⟨g, 0, none⟩) n cap) n (ds.flatMap encP)) (hsz : n < 1099511627776) :
    Calls Tryd.prog 41 #[.slice (some ⟨g, 0, none⟩) n cap, fnC] w1 fun e w' => e = .returned (.tuple #[]) ∧ ∃ L : List PV, L.Perm ds ∧ (∀ i j (hi : i < L.length) (hj : j < L.length), i < j → ¬ KL L[j].key L[i].key) ∧
      (∀ i (hi : i < L.length) j, j < 6 → w'.cell? ⟨g, i * 6 + j, none⟩ = (encP L[i])[j]?) ∧ ∀ B' W, Below B' W w1 → B' ≤ g → Below B' W w' := by
  have hlt := (own_lt hown (b := g) rfl).2
  have R : RowK encP 6 w1 g 0 ds.toArray := ⟨encP_len, encP_one, holds_of_own encP_len (by omega) (by simpa using hown) (by simpa using hn), hlt⟩
  have hS := sortStable_any g 0 cap ds.toArray w1 R (by simp; omega)
  rw [List.size_toArray, hn] at hS
  refine hS.mono ?_
  rintro e w' ⟨rfl, d', S, P, Q⟩
  have hsz' : d'.size = n := by rw [P.1, List.size_toArray, hn]
  refine ⟨rfl, d'.toList, ?_, ?_, ?_, fun B' W hb hB => swk_below S hb (by omega) hB⟩
  · have h3 := P.2.2
    have e1 : d'.extract 0 n = d' := by rw [← hsz']; exact Array.extract_size
    have e2 : ds.toArray.extract 0 n = ds.toArray := by rw [show n = ds.toArray.size by simp [hn]]; exact Array.extract_size
    rw [e1, e2] at h3
    simpa using h3
  · intro i j hi hj hij hk
    have h4 := Q i j (by omega) hij (by simp at hj; omega)
    simp only [Array.length_toList] at hi hj
    rw [ltP, getElem!_pos d' i hi, getElem!_pos d' j hj] at h4
    rw [kl_iff] at hk
    simp only [Array.getElem_toList] at hk
    rw [hk] at h4
    cases h4
  · intro i hi j hj
    simp only [Array.length_toList] at hi
    exact cells_of_holds encP_len (S.holds hlt R.hH (by rw [P.1])) i hi j hj

end Go.Proofs.YtmleipmilmeclaaDoor
