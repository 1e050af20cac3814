/- Values as trees; how they lie; a tree's nodes. -/
import Derived.Test.YtmleipmilmeclaaDoorXUf
import Derived.Test.YtmleipmilmeclaaDoorXWn
namespace Go.Proofs.YtmleipmilmeclaaDoor
open Go.RowKit
attribute [local go_sem ↓] Go.wp_at_zero Go.wp_at_succ

/-- A value: kind, number, text, keys, kids. -/
inductive T where
  | mk (k n : Int) (s : ByteArray) (ks : List ByteArray) (kids : List T)
def T.k : T → Int | .mk k _ _ _ _ => k
def T.n : T → Int | .mk _ n _ _ _ => n
def T.s : T → ByteArray | .mk _ _ s _ _ => s
def T.ks : T → List ByteArray | .mk _ _ _ ks _ => ks
def T.kids : T → List T | .mk _ _ _ _ kids => kids

/-- A value is one of its kind, whatever its kids are. -/
def Al (t : T) : Prop :=
  (t.k = 1 ∧ t.n = 0 ∧ t.s = ⟨#[]⟩ ∧ t.kids.length = 0 ∧ t.ks.length = 0) ∨
  (t.k = 2 ∧ (t.n = 0 ∨ t.n = 1) ∧ t.s = ⟨#[]⟩ ∧ t.kids.length = 0 ∧ t.ks.length = 0) ∨
  (t.k = 3 ∧ t.s = ⟨#[]⟩ ∧ t.kids.length = 0 ∧ t.ks.length = 0) ∨
  (t.k = 4 ∧ vld (bytesL t.s) = true ∧ t.n = 0 ∧ t.kids.length = 0 ∧ t.ks.length = 0) ∨
  (t.k = 5 ∧ t.n = 0 ∧ t.s = ⟨#[]⟩ ∧ t.ks.length = 0) ∨
  (t.k = 6 ∧ kOk t.ks t.ks.length ∧ t.n = 0 ∧ t.s = ⟨#[]⟩ ∧ t.kids.length = t.ks.length)
noncomputable def al (t : T) : Bool := @decide (Al t) (Classical.propDecidable _)
theorem al_iff (t : T) : al t = true ↔ Al t := by unfold al; exact @decide_eq_true_iff _ (Classical.propDecidable _)

/-- Nothing in it is too great for a machine. -/
def SmallT (t : T) : Prop := t.s.size < 1099511627776 ∧ (∀ k ∈ t.ks, k.size < 1099511627776) ∧ t.ks.length < 1099511627776 ∧ t.kids.length < 1099511627776

/-- How a value lies: its five cells, what they lead to. -/
def Lay (W : World) : Nat → V5 → T → Prop
  | 0, _, _ => False
  | h + 1, v, t => (v.k = t.k ∧ v.n = t.n ∧ v.s = t.s ∧ v.nq = t.ks.length ∧ v.np = t.kids.length ∧ SmallT t) ∧
      (t.ks = [] ∨ ∃ b o, v.q = some ⟨b, o, none⟩ ∧ b < W.heap.size ∧ ∀ i (hi : i < t.ks.length), W.cell? ⟨b, o + i, none⟩ = some (.string t.ks[i])) ∧
      (t.kids = [] ∨ ∃ b o, v.p = some ⟨b, o, none⟩ ∧ b < W.heap.size ∧ ∀ i (hi : i < t.kids.length), ∃ u, KidAt W b (o + i * 5) u ∧ Lay W h u t.kids[i])

theorem Lay.below {W W' : World} (hb : Below W.heap.size W W') : ∀ {h : Nat} {v : V5} {t : T}, Lay W h v t → Lay W' h v t
  | 0, _, _, hl => hl
  | h + 1, v, t, ⟨h1, h2, h3⟩ => ⟨h1, h2.imp id fun ⟨b, o, hq, hlt, hc⟩ => ⟨b, o, hq, Nat.lt_of_lt_of_le hlt hb.size, fun i hi => (hb.cell (p := ⟨b, o + i, none⟩) hlt).trans (hc i hi)⟩,
      h3.imp id fun ⟨b, o, hp, hlt, hc⟩ => ⟨b, o, hp, Nat.lt_of_lt_of_le hlt hb.size, fun i hi => by
        obtain ⟨u, hu, hl⟩ := hc i hi
        exact ⟨u, hu.below hb hlt, Lay.below hb hl⟩⟩⟩

theorem Lay.mono {W : World} : ∀ {h h' : Nat} {v : V5} {t : T}, h ≤ h' → Lay W h v t → Lay W h' v t
  | 0, _, _, _, _, hl => hl.elim
  | h + 1, 0, _, _, hh, _ => by omega
  | h + 1, h' + 1, v, t, hh, ⟨h1, h2, h3⟩ => ⟨h1, h2, h3.imp id fun ⟨b, o, hp, hlt, hc⟩ => ⟨b, o, hp, hlt, fun i hi => by
      obtain ⟨u, hu, hl⟩ := hc i hi
      exact ⟨u, hu, Lay.mono (by omega) hl⟩⟩⟩

/-- A tree's height is at most h. -/
def Ht : Nat → T → Prop
  | 0, _ => False
  | h + 1, t => ∀ i (hi : i < t.kids.length), Ht h t.kids[i]
theorem Lay.ht {W : World} : ∀ {h : Nat} {v : V5} {t : T}, Lay W h v t → Ht h t
  | 0, _, _, hl => hl
  | h + 1, v, t, ⟨_, _, h3⟩ => fun i hi => by
    rcases h3 with h3 | ⟨b, o, _, _, hc⟩
    · rw [h3] at hi; simp at hi
    · obtain ⟨u, _, hl⟩ := hc i hi
      exact Lay.ht hl

/-- Its nodes, in order: level, kind, is it one of its kind. -/
noncomputable def preT : Nat → Int → T → List (Int × Int × Bool)
  | 0, _, _ => []
  | h + 1, lv, t => (lv, t.k, al t) :: (t.kids.map (preT h (lv + 1))).flatten

def infoN {n₀ : Nat} {w : World} (x : Node n₀ w) : Int × Int × Bool := (x.lv, x.v.k, x.ok)

set_option maxHeartbeats 400000 in
theorem is_none (x : V5) (h : ¬(1 ≤ x.k ∧ x.k ≤ 6)) (w : World) :
    Calls Tryd.prog 73 #[x.v] w fun e w' => e = .returned (.bool false) ∧ Below w.heap.size w w' := by
  obtain ⟨k, xn, s, p, np, cp, q, nq, cq⟩ := x
  simp only at h
  simp only [V5.v, V5.cs]
  have hz : k < 1 ∨ 6 < k := by omega
  rcases hz with hz | hz
  · have d1 : decide (1 ≤ k) = false := by simp; omega
    go_enter Tryd.func73, Tryd.ntmps73
    go_upto_region 2 with fail
    go_region
    all_goals go_wp2_with fail
    all_goals go_ret
    all_goals (refine ⟨rfl, ?_⟩)
    all_goals repeat' (first | (with_reducible exact Below.refl _ _) | (with_reducible refine Below.alloc ?_ (by go_size) _) | (with_reducible refine Below.drew ?_))
  · have d1 : decide (1 ≤ k) = true := by simp; omega
    have d2 : decide (k ≤ 6) = false := by simp; omega
    go_enter Tryd.func73, Tryd.ntmps73
    go_upto_region 2 with fail
    go_region
    all_goals go_wp2_with fail
    all_goals go_ret
    all_goals (refine ⟨rfl, ?_⟩)
    all_goals repeat' (first | (with_reducible exact Below.refl _ _) | (with_reducible refine Below.alloc ?_ (by go_size) _) | (with_reducible refine Below.drew ?_))

set_option maxHeartbeats 4000000 in
theorem truth_any (x : V5) (w : World) :
    Calls Tryd.prog 86 #[x.v] w fun e w' => e = .returned (.bool (decide ((x.n = 0 ∨ x.n = 1) ∧ x.s = ⟨#[]⟩ ∧ x.np = 0 ∧ x.nq = 0))) ∧ Below w.heap.size w w' := by
  have hb := fun w => bare_any x (bits .and .i64 x.n 1) ⟨#[]⟩ 0 w
  obtain ⟨k, xn, s, p, np, cp, q, nq, cq⟩ := x
  simp only [V5.v, V5.cs] at hb ⊢
  go_enter Tryd.func86, Tryd.ntmps86
  go_wp2_with (go_at_call 95; refine (hb _).mono ?_; rintro e w1 ⟨rfl, hb1⟩)
  go_ret
  refine ⟨ret_bool ?_, Below.after ((Below.refl _ _).alloc (Nat.le_refl _) _) hb1 (by go_size)⟩
  have e : xn = xn % 2 ↔ (xn = 0 ∨ xn = 1) := by omega
  rw [i64_and1, Bool.eq_iff_iff]
  simp only [Bool.and_eq_true, decide_eq_true_eq, e]

set_option maxHeartbeats 400000 in
theorem object_nil (x : V5) (hn : x.nq = 0) (w : World) :
    Calls Tryd.prog 90 #[x.v] w fun e w' => e = .returned (.bool (decide (x.n = 0 ∧ x.s = ⟨#[]⟩ ∧ x.np = 0))) ∧ Below w.heap.size w w' := by
  obtain ⟨k, xn, s, p, np, cp, q, nq, cq⟩ := x
  simp only [V5.v, V5.cs] at hn ⊢
  subst hn
  go_enter Tryd.func90, Tryd.ntmps90
  go_wp2_with fail
  go_loopw [10] (fun i wr => i = .int .i64 0 ∧ Blk wr w.heap.size #[.int .i64 k, .int .i64 xn, .string s, .slice p np cp, .slice q 0 cq] 119 ∧ Below w.heap.size w wr) (fun _ _ => 0)
  case atStart => exact ⟨rfl, Blk.new _ _ _, by go_grown⟩
  case round =>
    obtain ⟨rfl, kb, hbw⟩ := hrel
    have c0 := kb.cell 0
    have c1 := kb.cell 1
    have c2 := kb.cell 2
    have c3 := kb.cell 3
    have c4 := kb.cell 4
    have l := kb.lt
    simp at c0 c1 c2 c3 c4
    go_wp2_with fail
    · rename_i h1 h2
      have hs : s = ⟨#[]⟩ := str_nil h2
      refine bodyPost_ret (v := .bool (decide (np = 0))) ?_ rfl ⟨ret_bool (by simp [h1, hs]), hbw⟩
      simp [results, Tryd.results90, go_sem, nat_beq]
    · rename_i h1 h2
      have hs : s ≠ ⟨#[]⟩ := fun e => h2 (by rw [e]; exact nil_bytes)
      exact bodyPost_ret (v := .bool false) (by simp [results, Tryd.results90, go_sem]) rfl ⟨ret_bool (by simp [hs]), hbw⟩
    · rename_i h1
      exact bodyPost_ret (v := .bool false) (by simp [results, Tryd.results90, go_sem]) rfl ⟨ret_bool (by simp [h1]), hbw⟩

end Go.Proofs.YtmleipmilmeclaaDoor

/- Walks: a value that lies, is it one of its kind; may it be. -/
namespace Go.Proofs.YtmleipmilmeclaaDoor
open Go.RowKit
attribute [local go_sem ↓] Go.wp_at_zero Go.wp_at_succ

theorem lay_is {W : World} {h : Nat} {v : V5} {t : T} (hl : Lay W h v t) (hg : Gl W) (W' : World) (hb : Below W.heap.size W W') :
    Calls Tryd.prog 73 #[v.v] W' fun e w' => e = .returned (.bool (al t)) ∧ Below W'.heap.size W' w' := by
  match h, hl with
  | 0, hl => exact hl.elim
  | h + 1, ⟨⟨e1, e2, e3, e4, e5, sm⟩, h2, _⟩ =>
    by_cases hr : 1 ≤ v.k ∧ v.k ≤ 6
    · have hk : v.k = 1 ∨ v.k = 2 ∨ v.k = 3 ∨ v.k = 4 ∨ v.k = 5 ∨ v.k = 6 := by omega
      rcases hk with hk | hk | hk | hk | hk | hk
      · have e : al t = decide (v.n = 0 ∧ v.s = ⟨#[]⟩ ∧ v.np = 0 ∧ v.nq = 0) := by
          rw [Bool.eq_iff_iff, al_iff, decide_eq_true_eq, e2, e3, e4, e5]; unfold Al; simp [e1.symm.trans hk]
        rw [e]
        exact is_k1 v hk _ (null_any v) W'
      · have e : al t = decide ((v.n = 0 ∨ v.n = 1) ∧ v.s = ⟨#[]⟩ ∧ v.np = 0 ∧ v.nq = 0) := by
          rw [Bool.eq_iff_iff, al_iff, decide_eq_true_eq, e2, e3, e4, e5]; unfold Al; simp [e1.symm.trans hk]
        rw [e]
        exact is_k2 v hk _ (truth_any v) W'
      · have e : al t = decide (v.s = ⟨#[]⟩ ∧ v.np = 0 ∧ v.nq = 0) := by
          rw [Bool.eq_iff_iff, al_iff, decide_eq_true_eq, e3, e4, e5]; unfold Al; simp [e1.symm.trans hk]
        rw [e]
        exact is_k3 v hk _ (number_any v) W'
      · have e : al t = decide (vld (bytesL v.s) = true ∧ v.n = 0 ∧ v.np = 0 ∧ v.nq = 0) := by
          rw [Bool.eq_iff_iff, al_iff, decide_eq_true_eq, e2, e3, e4, e5]; unfold Al; simp [e1.symm.trans hk]
        rw [e]
        exact is_g4 v hk _ W' fun w' hw' => text_any v (by rw [e3]; have := sm.1; omega) w' (hg.below (hb.trans (hw'.mono hb.size)) hg.lt (Nat.le_trans hb.size hw'.size))
      · have e : al t = decide (v.n = 0 ∧ v.s = ⟨#[]⟩ ∧ v.nq = 0) := by
          rw [Bool.eq_iff_iff, al_iff, decide_eq_true_eq, e2, e3, e4]; unfold Al; simp [e1.symm.trans hk]
        rw [e]
        exact is_k5 v hk _ (list_any v) W'
      · have ea : Al t ↔ (kOk t.ks t.ks.length ∧ t.n = 0 ∧ t.s = ⟨#[]⟩ ∧ t.kids.length = t.ks.length) := by
          unfold Al; simp [e1.symm.trans hk]
        refine is_g6 v hk _ W' fun w' hw' => ?_
        have hb' := hb.trans (hw'.mono hb.size)
        rcases h2 with h2 | ⟨b, o, hq, hlt, hc⟩
        · have e : al t = decide (v.n = 0 ∧ v.s = ⟨#[]⟩ ∧ v.np = 0) := by
            rw [Bool.eq_iff_iff, al_iff, decide_eq_true_eq, ea, e2, e3, e5, h2]
            exact ⟨fun h => ⟨h.2.1, h.2.2.1, h.2.2.2⟩, fun h => ⟨kOk_zero _, h.1, h.2.1, h.2.2⟩⟩
          rw [e]
          exact object_nil v (by rw [e4, h2]; rfl) w'
        · exact object_any v t.ks b o hq e4 w' (fun i hi => (hb'.cell (p := ⟨b, o + i, none⟩) hlt).trans (hc i hi)) (Nat.lt_of_lt_of_le hlt hb'.size) (fun k hk => by have := sm.2.1 k hk; omega) (by have := sm.2.2.1; omega) (hg.below hb' hg.lt hb'.size) _ (by rw [al_iff, ea, e2, e3, e5])
    · have e : al t = false := by
        rw [Bool.eq_false_iff]
        intro h
        have h' := (al_iff t).1 h
        unfold Al at h'
        rw [← e1] at h'
        omega
      rw [e]
      exact is_none v hr W'

/-- A value that lies, as the iterator's nodes. -/
theorem pre_of_lay {W : World} (hg : Gl W) : ∀ (h : Nat) (lv : Int) (v : V5) (t : T), 0 ≤ lv → lv + h < 4611686018427387904 → Lay W h v t → ∃ L : List (Node W.heap.size W), Pre W.heap.size W W h lv v L ∧ L.map infoN = preT h lv t
  | 0, _, _, _, _, _, hl => hl.elim
  | h + 1, lv, v, t, h0, h1, hl => by
    have hl' := hl
    obtain ⟨⟨e1, e2, e3, e4, e5, sm⟩, h2, h3⟩ := hl'
    have hx : ∃ x : Node W.heap.size W, x.lv = lv ∧ x.v = v ∧ x.ok = al t := ⟨⟨lv, h0, by omega, v, al t, fun W' hb => lay_is hl hg W' hb⟩, rfl, rfl, rfl⟩
    obtain ⟨x, x1, x2, x3⟩ := hx
    have xi : infoN x = (lv, t.k, al t) := by unfold infoN; rw [x1, x2, x3, e1]
    rcases h3 with h3 | ⟨b, o, hp, hlt, hc⟩
    · refine ⟨[x], ⟨x, [], x1, x2, rfl, ⟨by rw [e5, h3]; rfl, by simp⟩, .inl rfl, fun i hi => by simp at hi⟩, ?_⟩
      simp [preT, h3, xi]
    · have key : ∀ m, m ≤ t.kids.length → ∃ Ks : List (V5 × List (Node W.heap.size W)), Ks.length = m ∧ (∀ i (hi : i < Ks.length), KidAt W b (o + i * 5) Ks[i].1 ∧ Pre W.heap.size W W h (lv + 1) Ks[i].1 Ks[i].2) ∧ (Ks.map (·.2)).flatten.map infoN = ((t.kids.take m).map (preT h (lv + 1))).flatten := by
        intro m
        induction m with
        | zero => intro _; exact ⟨[], rfl, fun i hi => by simp at hi, by simp⟩
        | succ m ih =>
          intro hm
          obtain ⟨Ks, k1, k2, k3⟩ := ih (by omega)
          obtain ⟨u, hu, hlu⟩ := hc m (by omega)
          obtain ⟨L, hL1, hL2⟩ := pre_of_lay hg h (lv + 1) u t.kids[m] (by omega) (by omega) hlu
          refine ⟨Ks ++ [(u, L)], by simp [k1], fun i hi => ?_, ?_⟩
          · by_cases hi2 : i < Ks.length
            · rw [List.getElem_append_left hi2]; exact k2 i hi2
            · have : i = m := by simp at hi; omega
              subst this
              rw [List.getElem_append_right (by omega)]
              simp only [k1, Nat.sub_self, List.getElem_cons_zero]
              exact ⟨hu, hL1⟩
          · rw [List.take_succ_eq_append_getElem (by omega)]
            simp only [List.map_append, List.flatten_append, List.map_cons, List.map_nil, List.flatten_cons, List.flatten_nil, List.append_nil, k3, hL2]
      obtain ⟨Ks, k1, k2, k3⟩ := key t.kids.length (Nat.le_refl _)
      rw [List.take_of_length_le (Nat.le_refl _)] at k3
      refine ⟨x :: (Ks.map (·.2)).flatten, ⟨x, Ks, x1, x2, rfl, ⟨by rw [e5, k1], by rw [k1]; have := sm.2.2.2; omega⟩, .inr ⟨b, o, hp, hlt, fun i hi => (k2 i hi).1⟩, fun i hi => (k2 i hi).2⟩, ?_⟩
      rw [List.map_cons, k3, xi]
      rfl

theorem dep_le_iff {n₀ : Nat} {w : World} (L : List (Node n₀ w)) (m : Int) : ∀ d, L.foldl depN d ≤ m ↔ d ≤ m ∧ ∀ x ∈ L, (x.v.k = 5 ∨ x.v.k = 6) → x.lv + 1 ≤ m := by
  induction L with
  | nil => intro d; simp
  | cons x L ih =>
    intro d
    rw [List.foldl_cons, ih]
    unfold depN
    by_cases hk : x.v.k = 5 ∨ x.v.k = 6
    · rw [if_pos hk]
      constructor
      · rintro ⟨h1, h2⟩
        exact ⟨by omega, fun y hy hy2 => by
          rcases List.mem_cons.1 hy with rfl | hy
          · omega
          · exact h2 y hy hy2⟩
      · rintro ⟨h1, h2⟩
        have := h2 x (by simp) hk
        exact ⟨by omega, fun y hy hy2 => h2 y (by simp [hy]) hy2⟩
    · rw [if_neg hk]
      constructor
      · rintro ⟨h1, h2⟩
        exact ⟨h1, fun y hy hy2 => by
          rcases List.mem_cons.1 hy with rfl | hy
          · exact absurd hy2 hk
          · exact h2 y hy hy2⟩
      · rintro ⟨h1, h2⟩
        exact ⟨h1, fun y hy hy2 => h2 y (by simp [hy]) hy2⟩

/-- May a tree be? -/
def RightT (h : Nat) (t : T) : Prop := (preT h 0 t).length ≤ 256 ∧ (∀ x ∈ preT h 0 t, (x.2.1 = 5 ∨ x.2.1 = 6) → x.1 + 1 ≤ 8) ∧ ∀ x ∈ preT h 0 t, x.2.2 = true
noncomputable def rightT (h : Nat) (t : T) : Bool := @decide (RightT h t) (Classical.propDecidable _)
theorem rightT_iff (h : Nat) (t : T) : rightT h t = true ↔ RightT h t := by unfold rightT; exact @decide_eq_true_iff _ (Classical.propDecidable _)

theorem good_iff {n₀ : Nat} {w : World} (L : List (Node n₀ w)) (h : Nat) (t : T) (hm : L.map infoN = preT h 0 t) : Good L ↔ RightT h t := by
  unfold Good RightT dep
  rw [dep_le_iff, ← hm, List.length_map]
  constructor
  · rintro ⟨h1, ⟨_, h2⟩, h3⟩
    exact ⟨h1, fun x hx => by obtain ⟨y, hy, rfl⟩ := List.mem_map.1 hx; exact h2 y hy, fun x hx => by obtain ⟨y, hy, rfl⟩ := List.mem_map.1 hx; exact h3 y hy⟩
  · rintro ⟨h1, h2, h3⟩
    exact ⟨h1, ⟨by omega, fun y hy => h2 _ (List.mem_map.2 ⟨y, hy, rfl⟩)⟩, fun y hy => h3 _ (List.mem_map.2 ⟨y, hy, rfl⟩)⟩

theorem right_lay {W : World} {h : Nat} {v : V5} {t : T} (hl : Lay W h v t) (hh : h < 1099511627776) (hg : Gl W) :
    Calls Tryd.prog 31 #[v.v] W fun e w' => e = .returned (.bool (rightT h t)) ∧ Below W.heap.size W w' := by
  obtain ⟨L, hp, hm⟩ := pre_of_lay hg h 0 v t (by omega) (by omega) hl
  exact right_any v W W (Below.refl _ _) L h (by omega) hp _ ((rightT_iff h t).trans (good_iff L h t hm).symm)

end Go.Proofs.YtmleipmilmeclaaDoor
