/- An append of a row, of whatever length. -/
import Derived.Test.YtmleipmilmeclaaDoorXMath
import Derived.Deep.AppendLies
import Derived.Laws.OwnMore
import Derived.Test.YtmleipmilmeclaaDoorXUa
import Derived.Deep.DeepCutAuto
import Derived.BigQuiet
namespace Go.Proofs.YtmleipmilmeclaaDoor
open Go.RowKit

theorem run_append_zero {P : Program} {w : World} (base : Nat) (t ty e : TypeId) (i : TypeInfo) (size : Nat) (ht : P.underlying t = some (.slice e)) (hi : P.info? e = some i)
    (v : Value) (n : Nat) (xs : List Value) (hown : w.ownsRow base e size v n xs) (p : Option Addr) (c : Nat) :
    (Builtin.append_ #[t, t] ty #[v, .slice p 0 c]).run P w = .ok v w := by
  rcases hown.2 with ⟨rfl, rfl⟩ | ⟨g, cap, cur, rfl, _, _, hnc, _⟩
  · cases p <;> simp [Builtin.append_, run_underlying ht, sizeOf, typeInfo, hi, Builtin.lenOf, Builtin.firstCells, loadCells, loadCellsFrom]
  · cases p <;> simp [Builtin.append_, run_underlying ht, sizeOf, typeInfo, hi, Builtin.lenOf, Builtin.firstCells, hnc, storeCells, loadCells, loadCellsFrom]

/-- A row that lies: nothing, or m elements at an address. -/
def Lies (w : World) (size : Nat) (p : Option Addr) (m : Nat) (news : List Value) : Prop :=
  (m = 0 ∧ news = []) ∨ ∃ ad, p = some ad ∧ 0 < m ∧ news.length = m * size ∧ ∀ j u, news[j]? = some u → w.cell? (ad.add j) = some u

theorem wpList_append_row {P : Program} {w : World} {ops : Array Oper} {rest : List Oper} {o : Oper} {a : Act} {Q : Exit → Act → World → Prop} (hgd : o.guard = none) (s x : Operand) (t : TypeId)
    (ho : o.op = .call { callee := .builtin .append, args := #[s, x], argTypes := #[t, t] })
    (base : Nat) (e : TypeId) (i : TypeInfo) (z : Value) (size bytes : Nat) (ht : P.underlying t = some (.slice e)) (hi : P.info? e = some i) (hz : i.zero = some z)
    (hsize : i.size = size) (hby : i.bytes = bytes) (hzs : z.cells.size = size) (hsz : 0 < size)
    (v : Value) (n : Nat) (xs : List Value) (hs : a.eval s = v) (hown : w.ownsRow base e size v n xs)
    (p : Option Addr) (m c : Nat) (news : List Value) (hx : a.eval x = .slice p m c) (hl : Lies w size p m news) (h1 : ∀ u ∈ news, u.oneCell' = true)
    (h63 : n + m ≤ maxLen) (hbytes : (n + m) * bytes ≤ 140737488355328) (hbase : base ≤ w.heap.size)
    (h : ∀ v' w', w'.ownsRow base e size v' (n + m) (xs ++ news) → w.grownBy w' v.ownBlock → (0 < m ∨ v' = v) → wpList P ops Q rest (a.put o.dst v') w') : wpList P ops Q (o :: rest) a w := by
  rcases hl with ⟨rfl, rfl⟩ | ⟨ad, rfl, hm, hl, hn⟩
  · refine wpList_plain hgd fun K hK => ?_
    have hrun := run_append_zero (P := P) (w := w) base t o.type e i size ht hi v n xs hown p c
    unfold Oper.wp
    simp [execOp, ho, resolve, invoke, builtin, hs, hx, hrun, Result.andThen]
    exact hK _ _ (h v w (by simpa using hown) (World.grownBy.refl _ _) (.inr rfl))
  · exact wpList_append_lies w hgd s x t ho base e i z size bytes ht hi hz hsize hby hzs hsz v n xs hs hown ad m c news hx hl hn h1 hm h63 hbytes hbase _ rfl (fun g cap w' r1 r2 _ _ => h _ w' r1 r2 (.inl hm))

end Go.Proofs.YtmleipmilmeclaaDoor

/- Walks: the copies of a row. -/
namespace Go.Proofs.YtmleipmilmeclaaDoor
open Go.RowKit
attribute [local go_sem ↓] Go.wp_at_zero Go.wp_at_succ

theorem info56 : (Tryd.prog.info? 56).map (fun i => (i.zero, i.size, i.bytes)) = some (some (.agg #[.string ⟨#[]⟩, .int .i64 0, .int .i64 0, .string ⟨#[]⟩, .slice none 0 0, .slice none 0 0]), 6, 96) := by kernel_rfl

theorem info39k : (Tryd.prog.info? 39).map (fun i => (i.zero, i.size, i.bytes)) = some (some (.agg #[.int .i64 0, .int .i64 0, .string ⟨#[]⟩, .slice none 0 0, .slice none 0 0]), 5, 80) := by kernel_rfl

theorem eql48 (a : Addr) (m c : Nat) (w : World) : (Go.binOp .eql 48 (.slice (some a) m c) (.slice none 0 0)).run Tryd.prog w = .ok (.bool false) w := by kernel_rfl
theorem eql36 (a : Addr) (m c : Nat) (w : World) : (Go.binOp .eql 36 (.slice (some a) m c) (.slice none 0 0)).run Tryd.prog w = .ok (.bool false) w := by kernel_rfl
attribute [local go_sem] eql48 eql36

/-- A row of the call's own, not nil. -/
theorem own_at {w : World} {base : Nat} {e : TypeId} {size : Nat} {v : Value} {n : Nat} {xs : List Value} (h : w.ownsRow base e size v n xs) (hv : v ≠ .slice none 0 0) : ∃ g cap, v = .slice (some ⟨g, 0, none⟩) n cap ∧ base ≤ g ∧ g < w.heap.size ∧ n ≤ cap := by
  rcases h.2 with ⟨rfl, _⟩ | ⟨g, cap, cur, rfl, hb, hg, hc, _⟩
  · exact absurd rfl hv
  · exact ⟨g, cap, rfl, hb, (Array.getElem?_eq_some_iff.1 hg).1, hc⟩

theorem Lies.below {w w' : World} {size : Nat} {p : Option Addr} {m : Nat} {news : List Value} (h : Lies w size p m news) (hb : Below w.heap.size w w') : Lies w' size p m news := by
  rcases h with h | ⟨ad, h1, h2, h3, h4⟩
  · exact .inl h
  · exact .inr ⟨ad, h1, h2, h3, fun j u hu => (hb.cell (p := ad.add j) (World.block_lt_of_cell? w _ (h4 j u hu))).trans (h4 j u hu)⟩

set_option maxRecDepth 100000 in
set_option maxHeartbeats 1000000 in
theorem clonePairs_any (W : World) (ad : Addr) (m c : Nat) (news : List Value) (hl : Lies W 6 (some ad) m news) (h1 : ∀ u ∈ news, u.oneCell' = true) (hm : m < 1099511627776) :
    Calls Tryd.prog 40 #[.slice (some ad) m c] W fun e w' => ∃ g cap, e = .returned (.slice (some ⟨g, 0, none⟩) m cap) ∧ w'.ownsRow W.heap.size 56 6 (.slice (some ⟨g, 0, none⟩) m cap) m news ∧ Below W.heap.size W w' := by
  obtain ⟨i0, hin, hz0, hz1, hz2⟩ := info_parts info56
  have hl' := Lib.hid hl
  have h1' := Lib.hid h1
  clear hl h1
  go_enter Tryd.func40, Tryd.ntmps40
  go_wp2_with (at_builtin; refine wpList_append_row rfl (.tmp 5) (.tmp 6) 48 rfl W.heap.size 56 i0 _ 6 96 Tryd.underlying48 hin hz0 hz1 hz2 rfl (by decide) (.slice (some ⟨W.heap.size, 0, none⟩) 0 0) 0 [] rfl (World.ownsRow_lit W #[] 0 (Nat.le_refl _) (by decide) rfl) (some ad) m c news rfl (hl'.out.below (by go_grown)) h1'.out (by unfold maxLen; omega) (by omega) (by go_size) ?_; intro v1 wa hown1 hgrow1 hne1)
  have hv : v1 ≠ .slice none 0 0 := by
    rintro rfl
    rcases hne1 with h | h
    · rcases hown1.2 with ⟨_, h2⟩ | ⟨g, cap, cur, h2, _⟩
      · omega
      · cases h2
    · cases h
  obtain ⟨g, cap, rfl, hg, hgl, hc⟩ := own_at hown1 hv
  go_ret
  rw [Nat.zero_add] at hown1
  refine ⟨g, cap, by rw [Nat.zero_add]; rfl, by simpa using hown1, ?_⟩
  exact Below.grown (by go_grown) hgrow1 (by go_size) (fun b hb => by simp [Value.ownBlock] at hb; omega)

set_option maxRecDepth 100000 in
set_option maxHeartbeats 1000000 in
theorem cloneKids_any (W : World) (ad : Addr) (m c : Nat) (news : List Value) (hl : Lies W 5 (some ad) m news) (h1 : ∀ u ∈ news, u.oneCell' = true) (hm : m < 1099511627776) :
    Calls Tryd.prog 44 #[.slice (some ad) m c] W fun e w' => ∃ g cap, e = .returned (.slice (some ⟨g, 0, none⟩) m cap) ∧ w'.ownsRow W.heap.size 39 5 (.slice (some ⟨g, 0, none⟩) m cap) m news ∧ Below W.heap.size W w' := by
  obtain ⟨i0, hin, hz0, hz1, hz2⟩ := info_parts info39k
  have hl' := Lib.hid hl
  have h1' := Lib.hid h1
  clear hl h1
  go_enter Tryd.func44, Tryd.ntmps44
  go_wp2_with (at_builtin; refine wpList_append_row rfl (.tmp 5) (.tmp 6) 36 rfl W.heap.size 39 i0 _ 5 80 Tryd.underlying36 hin hz0 hz1 hz2 rfl (by decide) (.slice (some ⟨W.heap.size, 0, none⟩) 0 0) 0 [] rfl (World.ownsRow_lit W #[] 0 (Nat.le_refl _) (by decide) rfl) (some ad) m c news rfl (hl'.out.below (by go_grown)) h1'.out (by unfold maxLen; omega) (by omega) (by go_size) ?_; intro v1 wa hown1 hgrow1 hne1)
  have hv : v1 ≠ .slice none 0 0 := by
    rintro rfl
    rcases hne1 with h | h
    · rcases hown1.2 with ⟨_, h2⟩ | ⟨g, cap, cur, h2, _⟩
      · omega
      · cases h2
    · cases h
  obtain ⟨g, cap, rfl, hg, hgl, hc⟩ := own_at hown1 hv
  go_ret
  rw [Nat.zero_add] at hown1
  refine ⟨g, cap, by rw [Nat.zero_add]; rfl, by simpa using hown1, ?_⟩
  exact Below.grown (by go_grown) hgrow1 (by go_size) (fun b hb => by simp [Value.ownBlock] at hb; omega)

end Go.Proofs.YtmleipmilmeclaaDoor
