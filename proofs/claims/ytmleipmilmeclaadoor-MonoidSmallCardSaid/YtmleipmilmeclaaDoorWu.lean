/- Walks: what Tell tells of all may be. -/
import Derived.Test.YtmleipmilmeclaaDoorWt
import Derived.Test.YtmleipmilmeclaaDoorUf
namespace Go.Proofs.YtmleipmilmeclaaDoor
open Go.RowKit
attribute [local go_sem ↓] Go.wp_at_zero Go.wp_at_succ

abbrev leaf (p : Int × Int) : V5 := ⟨p.1, p.2, ⟨#[]⟩, none, 0, 0, none, 0, 0⟩
abbrev statsV (g cap b : Nat) : V5 := ⟨6, 0, ⟨#[]⟩, some ⟨g, 0, none⟩, 5, cap, some ⟨b, 0, none⟩, 5, 5⟩
def keysL : List ByteArray := [{ data := #[99, 111, 117, 110, 116] }, { data := #[109, 97, 120] }, { data := #[109, 105, 110] }, { data := #[110, 117, 109, 98, 101, 114, 115] }, { data := #[115, 117, 109] }]

theorem leaf_is (p : Int × Int) (h : p.1 = 3 ∨ (p.1 = 1 ∧ p.2 = 0)) (W : World) : Calls Tryd.prog 73 #[(leaf p).v] W fun e w' => e = .returned (.bool true) ∧ Below W.heap.size W w' := by
  rcases h with h | ⟨h1, h2⟩
  · exact is_k3 (leaf p) h true (fun w => by simpa using number_any (leaf p) w) W
  · exact is_k1 (leaf p) h1 true (fun w => by simpa [h2] using null_any (leaf p) w) W

theorem five_leaf (r : R) (i : Nat) (h : i < 5) : ((five r)[i]'h).1 = 3 ∨ (((five r)[i]'h).1 = 1 ∧ ((five r)[i]'h).2 = 0) := by
  have hk : kd r.i = 3 ∨ (kd r.i = 1 ∧ ∀ n, nn r.i n = 0) := by
    unfold kd nn; by_cases hi : r.i = 0 <;> simp [hi]
  have h5 : i = 0 ∨ i = 1 ∨ i = 2 ∨ i = 3 ∨ i = 4 := by omega
  rcases h5 with rfl | rfl | rfl | rfl | rfl
  · exact .inl rfl
  · exact hk.imp id fun h => ⟨h.1, h.2 _⟩
  · exact hk.imp id fun h => ⟨h.1, h.2 _⟩
  · exact .inl rfl
  · exact .inl rfl

theorem five_kid (r : R) (W : World) (g : Nat) (h : ∀ j u, (kidsC (five r))[j]? = some u → W.cell? ⟨g, j, none⟩ = some u) (i : Nat) (hi : i < 5) : KidAt W g (0 + i * 5) (leaf ((five r)[i]'hi)) := by
  have h5 : i = 0 ∨ i = 1 ∨ i = 2 ∨ i = 3 ∨ i = 4 := by omega
  rcases h5 with rfl | rfl | rfl | rfl | rfl
  · exact ⟨h 0 _ rfl, h 1 _ rfl, h 2 _ rfl, h 3 _ rfl, h 4 _ rfl⟩
  · exact ⟨h 5 _ rfl, h 6 _ rfl, h 7 _ rfl, h 8 _ rfl, h 9 _ rfl⟩
  · exact ⟨h 10 _ rfl, h 11 _ rfl, h 12 _ rfl, h 13 _ rfl, h 14 _ rfl⟩
  · exact ⟨h 15 _ rfl, h 16 _ rfl, h 17 _ rfl, h 18 _ rfl, h 19 _ rfl⟩
  · exact ⟨h 20 _ rfl, h 21 _ rfl, h 22 _ rfl, h 23 _ rfl, h 24 _ rfl⟩

/-- Do keys be texts that rise? -/
def kOkB (ks : List ByteArray) : Bool := (List.range ks.length).all fun i => vld (bytesL (ks.getD i ⟨#[]⟩)) && (i == 0 || Op.bytesLess (ks.getD (i - 1) ⟨#[]⟩).toList (ks.getD i ⟨#[]⟩).toList)
theorem kOk_of {ks : List ByteArray} (h : kOkB ks = true) : kOk ks ks.length := by
  intro i hi _
  have h1 := List.all_eq_true.1 h i (List.mem_range.2 hi)
  simp only [Bool.and_eq_true, Bool.or_eq_true] at h1
  have e : ∀ j (hj : j < ks.length), ks.getD j ⟨#[]⟩ = ks[j] := fun j hj => by simp [List.getD_eq_getElem?_getD, hj]
  rw [e i hi] at h1
  refine ⟨h1.1, fun h0 => ?_⟩
  rcases h1.2 with h2 | h2
  · have : i = 0 := by simpa using h2
    omega
  · rwa [e (i - 1) (by omega)] at h2
theorem keys_ok : kOk keysL keysL.length := kOk_of (by decide +kernel)

theorem stats_is (g cap b : Nat) (w : World) (kb : Blk w b keysC 9) (hg : Gl w) (W : World) (hW : Below w.heap.size w W) :
    Calls Tryd.prog 73 #[(statsV g cap b).v] W fun e w' => e = .returned (.bool true) ∧ Below W.heap.size W w' := by
  refine is_g6 _ rfl true W fun w' hw' => ?_
  have hb' := hW.trans (hw'.mono hW.size)
  have kb' := kb.below hb' kb.lt
  refine object_any (statsV g cap b) keysL b 0 rfl rfl w' (fun i hi => ?_) kb'.lt (fun k hk => ?_) (by decide) (hg.below hb' hg.lt hb'.size) true ⟨fun _ => ⟨keys_ok, rfl, rfl, rfl⟩, fun _ => rfl⟩
  · have hi' : i < 5 := hi
    have h5 : i = 0 ∨ i = 1 ∨ i = 2 ∨ i = 3 ∨ i = 4 := by omega
    rcases h5 with rfl | rfl | rfl | rfl | rfl <;> exact kb'.cell _
  · simp only [keysL, List.mem_cons, List.not_mem_nil, or_false] at hk
    rcases hk with rfl | rfl | rfl | rfl | rfl <;> decide

def knode (n₀ : Nat) (w : World) (r : R) (i : Nat) (h : i < 5) : Node n₀ w := ⟨1, by omega, by omega, leaf ((five r)[i]'h), true, fun W _ => leaf_is _ (five_leaf r i h) W⟩
def kpair (n₀ : Nat) (w : World) (r : R) (i : Nat) (h : i < 5) : V5 × List (Node n₀ w) := (leaf ((five r)[i]'h), [knode n₀ w r i h])
def kpairs (n₀ : Nat) (w : World) (r : R) : List (V5 × List (Node n₀ w)) := [kpair n₀ w r 0 (by omega), kpair n₀ w r 1 (by omega), kpair n₀ w r 2 (by omega), kpair n₀ w r 3 (by omega), kpair n₀ w r 4 (by omega)]
theorem kpairs_at (n₀ : Nat) (w : World) (r : R) (i : Nat) (h : i < 5) : (kpairs n₀ w r)[i]'h = kpair n₀ w r i h := by
  have h5 : i = 0 ∨ i = 1 ∨ i = 2 ∨ i = 3 ∨ i = 4 := by omega
  rcases h5 with rfl | rfl | rfl | rfl | rfl <;> rfl
theorem depN_knode (n₀ : Nat) (w : World) (r : R) (i : Nat) (h : i < 5) (d : Int) : depN d (knode n₀ w r i h) = d := by
  have hl := five_leaf r i h
  unfold depN
  rw [if_neg]
  show ¬(((five r)[i]'h).1 = 5 ∨ ((five r)[i]'h).1 = 6)
  rcases hl with hl | hl <;> omega

theorem right_stats (r : R) (g cap b : Nat) (w : World) (kb : Blk w b keysC 9) (hk : ∀ j u, (kidsC (five r))[j]? = some u → w.cell? ⟨g, j, none⟩ = some u) (hgl : g < w.heap.size) (hg : Gl w) :
    Calls Tryd.prog 31 #[(statsV g cap b).v] w fun e w' => e = .returned (.bool true) ∧ Below w.heap.size w w' := by
  obtain ⟨x, hx⟩ : ∃ x : Node w.heap.size w, x = ⟨0, by omega, by omega, statsV g cap b, true, stats_is g cap b w kb hg⟩ := ⟨_, rfl⟩
  have x1 : x.lv = 0 := by rw [hx]
  have x2 : x.v = statsV g cap b := by rw [hx]
  have x3 : x.ok = true := by rw [hx]
  clear hx
  refine right_any (statsV g cap b) w w (Below.refl _ _) [x, knode w.heap.size w r 0 (by omega), knode w.heap.size w r 1 (by omega), knode w.heap.size w r 2 (by omega), knode w.heap.size w r 3 (by omega), knode w.heap.size w r 4 (by omega)] 2 (by omega) ⟨x, kpairs w.heap.size w r, x1, x2, rfl, ⟨rfl, by show 5 < 4611686018427387904; omega⟩, .inr ⟨g, 0, rfl, hgl, fun i hi => ?_⟩, fun i hi => ?_⟩ true ⟨fun _ => ⟨by show 6 ≤ 256; omega, ?_, ?_⟩, fun _ => rfl⟩
  · rw [kpairs_at w.heap.size w r i hi]
    exact five_kid r w g hk i hi
  · rw [kpairs_at w.heap.size w r i hi]
    exact ⟨knode w.heap.size w r i hi, [], rfl, rfl, rfl, ⟨rfl, by simp⟩, .inl rfl, fun j hj => by simp at hj⟩
  · simp only [dep, List.foldl_cons, List.foldl_nil, depN_knode]
    unfold depN
    rw [x1]
    split <;> omega
  · intro y hy
    simp only [List.mem_cons, List.not_mem_nil, or_false] at hy
    rcases hy with rfl | rfl | rfl | rfl | rfl | rfl
    · exact x3
    · rfl
    · rfl
    · rfl
    · rfl
    · rfl

theorem check_stats (r : R) (g cap b : Nat) (w : World) (kb : Blk w b keysC 9) (hk : ∀ j u, (kidsC (five r))[j]? = some u → w.cell? ⟨g, j, none⟩ = some u) (hgl : g < w.heap.size) (hg : Gl w) :
    Calls Tryd.prog 11 #[(statsV g cap b).v] w fun e w' => e = .returned (.int .i64 0) ∧ Below w.heap.size w w' := by
  have h' := Lib.hid (fun (W : World) (hW : Below w.heap.size w W) => right_stats r g cap b W (kb.below hW kb.lt) (fun j u hu => (hW.cell (p := ⟨g, j, none⟩) hgl).trans (hk j u hu)) (Nat.lt_of_lt_of_le hgl hW.size) (hg.below hW hg.lt hW.size))
  simp only [V5.v, V5.cs] at h' ⊢
  clear hk kb hg
  go_enter Tryd.func11, Tryd.ntmps11
  go_wp2_with (go_at_call 31; refine (h'.out _ (by go_grown)).mono ?_; rintro e w1 ⟨rfl, hb1⟩)
  go_ret
  exact ⟨rfl, Below.after (by go_grown) hb1 (by go_size)⟩

end Go.Proofs.YtmleipmilmeclaaDoor
