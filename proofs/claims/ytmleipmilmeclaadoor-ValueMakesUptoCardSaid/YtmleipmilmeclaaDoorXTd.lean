/- Plain: the order of keys; a key is put in; a row of elements of some cells each. -/
import Derived.Test.YtmleipmilmeclaaDoorXTa
import Derived.Sort.Walk0
import Derived.Sort.LotA
import Derived.Shelf.SlSortCmp.KitK
namespace Go.Proofs.YtmleipmilmeclaaDoor
open Go.Sort

/-- Less, of keys. -/
def KL (x y : ByteArray) : Prop := Op.bytesLess x.toList y.toList = true
theorem kl_iff (x y : ByteArray) : KL x y ↔ ltStr x.toList y.toList = true := by
  unfold KL ltStr
  rw [bytesLess_eq]
theorem KL.trans {x y z : ByteArray} (h : KL x y) (k : KL y z) : KL x z := by
  rw [kl_iff] at *; exact swo_ltStr.trans _ _ _ h k
theorem KL.irrefl (x : ByteArray) : ¬ KL x x := by
  rw [kl_iff, swo_ltStr.irrefl]; simp
theorem KL.tri {x y : ByteArray} (h : ¬ KL x y) (k : ¬ KL y x) : x = y := by
  rw [kl_iff] at *
  simp only [ltStr, decide_eq_true_eq, List.not_lt] at h k
  have e : x.toList = y.toList := List.le_antisymm k h
  rw [ByteArray.toList_eq, ByteArray.toList_eq] at e
  obtain ⟨⟨a⟩⟩ := x
  obtain ⟨⟨b⟩⟩ := y
  simpa using e

section
variable {α : Type} (f : α → ByteArray)

theorem ins_sorted {L : List α} {p : α} {at' : Nat} (hL : L.Pairwise fun a b => KL (f a) (f b)) (hat : at' ≤ L.length) (h1 : ∀ j (_ : j < at') (hj : j < L.length), KL (f L[j]) (f p))
    (h2 : ∀ h : at' < L.length, ¬ KL (f L[at']) (f p) ∧ f L[at'] ≠ f p) : (L.take at' ++ p :: L.drop at').Pairwise fun a b => KL (f a) (f b) := by
  have hd : ∀ b ∈ L.drop at', KL (f p) (f b) := by
    intro b hb
    obtain ⟨i, hi, rfl⟩ := List.getElem_of_mem hb
    rw [List.length_drop] at hi
    have hl : at' < L.length := by omega
    obtain ⟨n1, n2⟩ := h2 hl
    have hp : KL (f p) (f L[at']) := Classical.byContradiction fun hn => n2 (KL.tri n1 hn)
    rw [List.getElem_drop]
    rcases Nat.eq_zero_or_pos i with rfl | hi0
    · exact hp
    · exact hp.trans (List.pairwise_iff_getElem.1 hL at' (at' + i) hl (by omega) (by omega))
  have ht : ∀ a ∈ L.take at', KL (f a) (f p) := by
    intro a ha
    obtain ⟨i, hi, rfl⟩ := List.getElem_of_mem ha
    rw [List.length_take] at hi
    rw [List.getElem_take]
    exact h1 i (by omega) (by omega)
  refine List.pairwise_append.2 ⟨hL.sublist (List.take_sublist _ _), List.pairwise_cons.2 ⟨hd, hL.sublist (List.drop_sublist _ _)⟩, fun a ha b hb => ?_⟩
  rcases List.mem_cons.1 hb with rfl | hb
  · exact ht a ha
  · exact (ht a ha).trans (hd b hb)

theorem ins_perm (L : List α) (p : α) (at' : Nat) : (L.take at' ++ p :: L.drop at').Perm (p :: L) := by
  have h := @List.perm_middle _ p (L.take at') (L.drop at')
  rwa [List.take_append_drop] at h

theorem sorted_nodup {L : List α} (hL : L.Pairwise fun a b => KL (f a) (f b)) : (L.map f).Nodup := by
  rw [List.nodup_iff_pairwise_ne, List.pairwise_map]
  exact hL.imp fun {a b} h e => by rw [e] at h; exact KL.irrefl _ h

theorem sorted_unique {L L' d : List α} (h : L.Perm d) (h' : L'.Perm d) (s : L.Pairwise fun a b => KL (f a) (f b)) (s' : L'.Pairwise fun a b => KL (f a) (f b)) : L = L' :=
  List.Perm.eq_of_pairwise (le := fun a b => KL (f a) (f b)) (fun _ _ _ _ h1 h2 => absurd (h1.trans h2) (KL.irrefl _)) s s' (h.trans h'.symm)

theorem not_nodup_of_prefix {L d : List α} {i : Nat} (hi : i < d.length) (hp : L.Perm (d.take i)) {x : α} (hx : x ∈ L) (e : f x = f d[i]) : ¬ (d.map f).Nodup := by
  intro hn
  obtain ⟨j, hj, rfl⟩ := List.getElem_of_mem (hp.mem_iff.1 hx)
  rw [List.length_take] at hj
  rw [List.getElem_take] at e
  rw [List.nodup_iff_pairwise_ne, List.pairwise_iff_getElem] at hn
  exact hn j i (by simp; omega) (by simpa using hi) (by omega) (by simpa using e)
end

section
variable {α β : Type}
theorem flat_get' (f : α → List β) (k : Nat) (hf : ∀ x, (f x).length = k) : ∀ (L : List α) (i : Nat) (hi : i < L.length) (j : Nat), j < k → (L.flatMap f)[i * k + j]? = (f L[i])[j]?
  | [], i, hi, _, _ => by simp at hi
  | x :: r, 0, _, j, hj => by
    rw [List.flatMap_cons, Nat.zero_mul, Nat.zero_add, List.getElem?_append_left (by rw [hf]; exact hj)]
    rfl
  | x :: r, i + 1, hi, j, hj => by
    rw [List.flatMap_cons, List.getElem?_append_right (by rw [hf, Nat.add_mul]; omega), hf]
    have := flat_get' f k hf r i (by simpa using hi) j hj
    rw [show (i + 1) * k + j - k = i * k + j by rw [Nat.add_mul]; omega, this]
    rfl
theorem flat_len' (f : α → List β) (k : Nat) (hf : ∀ x, (f x).length = k) (L : List α) : (L.flatMap f).length = L.length * k := by
  induction L with
  | nil => simp
  | cons x r ih => rw [List.flatMap_cons, List.length_append, hf, ih, List.length_cons, Nat.add_mul]; omega
theorem flat_drop (f : α → List β) (k : Nat) (hf : ∀ x, (f x).length = k) (L : List α) (m : Nat) (hm : m ≤ L.length) : (L.flatMap f).drop (m * k) = (L.drop m).flatMap f := by
  conv => lhs; rw [← List.take_append_drop m L, List.flatMap_append]
  rw [List.drop_left' (by rw [flat_len' f k hf, List.length_take, Nat.min_eq_left hm])]
theorem flat_takeL (f : α → List β) (k : Nat) (hf : ∀ x, (f x).length = k) (L : List α) (m : Nat) (hm : m ≤ L.length) : (L.flatMap f).take (m * k) = (L.take m).flatMap f := by
  conv => lhs; rw [← List.take_append_drop m L, List.flatMap_append]
  rw [List.take_left' (by rw [flat_len' f k hf, List.length_take, Nat.min_eq_left hm])]
end

end Go.Proofs.YtmleipmilmeclaaDoor

/- The sort's world, told of blocks; a row of the call's own as the sort wants it. -/
namespace Go.Proofs.YtmleipmilmeclaaDoor
open Go.Shelf Go.RowKit Go.Lib Go.Sort

section
variable {α : Type} [Inhabited α] {enc : α → List Value} {k : Nat}

theorem swk_below {B : Nat} {W w0 w' : World} {blk off : Nat} {d : Array α} (S : SWK enc k w0 blk off d w') (hb : Below B W w0) (hB : B ≤ w0.heap.size) (hblk : B ≤ blk) : Below B W w' := by
  obtain ⟨n, os, rfl⟩ := S
  refine hb.trans ⟨rfl, rfl, rfl, ?_, fun j hj => ?_⟩
  · unfold sortWorldK; rw [size_grow, size_putRowK]; show w0.heap.size ≤ w0.heap.size + _; omega
  · unfold sortWorldK putRowK putRow mapBlock grow Sort.ahead
    simp only
    rw [Array.getElem?_append_left (by rw [Array.size_modify]; omega), Array.getElem?_modify, if_neg (by omega)]

theorem holds_of_own {w : World} {base : Nat} {e : TypeId} {g n cap : Nat} (hk : ∀ x, (enc x).length = k) (h0 : 0 < k) {d : Array α} (h : w.ownsRow base e k (.slice (some ⟨g, 0, none⟩) n cap) n (d.toList.flatMap enc)) (hn : d.size = n) : HoldsK enc k w g 0 d := by
  intro j hj
  rw [size_flatK] at hj
  have hd : j / k < d.size := Nat.div_lt_of_lt_mul (by rw [Nat.mul_comm]; exact hj)
  have hm : j % k < k := Nat.mod_lt _ h0
  have e1 := h.cellAt j (by rw [← hn]; exact hj)
  have e2 := flat_get' enc k hk d.toList (j / k) (by simpa using hd) (j % k) hm
  rw [Nat.mul_comm, Nat.div_add_mod] at e2
  refine ⟨?_, by rw [Nat.zero_add]; exact h.frozenAt j⟩
  rw [Nat.zero_add, e1, e2, get_flatK enc k d j hj, getElem!_pos d _ hd, id, Array.getElem_toList, getElem!_pos _ _ (by rw [hk]; exact hm), List.getElem?_eq_getElem (by rw [hk]; exact hm)]
  rfl

theorem cells_of_holds {w : World} {g : Nat} (hk : ∀ x, (enc x).length = k) {d : Array α} (h : HoldsK enc k w g 0 d) (i : Nat) (hi : i < d.size) (c : Nat) (hc : c < k) : w.cell? ⟨g, i * k + c, none⟩ = (enc d[i])[c]? := by
  have := HoldsK.cells h hk hi c ((enc d[i]!)[c]'(by rw [hk]; exact hc)) (List.getElem?_eq_getElem _)
  rw [Addr.add_lit, Nat.zero_add] at this
  rw [this]
  rw [List.getElem?_eq_getElem (by rw [hk]; exact hc)]
  simp only [getElem!_pos d i hi]
end

end Go.Proofs.YtmleipmilmeclaaDoor
