/- Cuts of rows of the call's own; an append of a row, of whatever length, at a step of a region that draws. -/
import Derived.Test.YtmleipmilmeclaaDoorXTf
import Derived.Deep.RegionHeldLaw
import Derived.Deep.Slices
namespace Go.Proofs.YtmleipmilmeclaaDoor
open Go.RowKit

/-- The address of a row behind its first i elements. -/
def cutA (q : Option Addr) (cap i size : Nat) : Option Addr := if cap = i then q else q.map (·.add (i * size))

theorem slice_hi37 (q : Option Addr) (len cap i : Nat) (h : i ≤ cap) (w : World) : (Instr.slice 37 (.slice q len cap) none (some (.int .i64 (i : Int))) none).run Tryd.prog w = .ok (.slice q i cap) w := by
  have hi : (0 : Int) ≤ (i : Int) ∧ (i : Int) ≤ (cap : Int) := by omega
  simp [Instr.slice, Instr.sliceBounds, Instr.sliceBound, go_sem, Tryd.underlying37, hi, run_underlying]
  intro hx; omega
theorem slice_hi36 (q : Option Addr) (len cap i : Nat) (h : i ≤ cap) (w : World) : (Instr.slice 36 (.slice q len cap) none (some (.int .i64 (i : Int))) none).run Tryd.prog w = .ok (.slice q i cap) w := by
  have hi : (0 : Int) ≤ (i : Int) ∧ (i : Int) ≤ (cap : Int) := by omega
  simp [Instr.slice, Instr.sliceBounds, Instr.sliceBound, go_sem, Tryd.underlying36, hi, run_underlying]
  intro hx; omega
theorem slice_lo37 (q : Option Addr) (len cap i : Nat) (h : i ≤ len) (w : World) : (Instr.slice 37 (.slice q len cap) (some (.int .i64 (i : Int))) none none).run Tryd.prog w = .ok (.slice (cutA q cap i 1) (len - i) (cap - i)) w := by
  have hi : (0 : Int) ≤ (i : Int) ∧ (i : Int) ≤ (len : Int) := by omega
  simp [Instr.slice, Instr.sliceBounds, Instr.sliceBound, go_sem, Tryd.underlying37, hi, run_underlying, cutA]
  intro hx; omega
theorem slice_lo36 (q : Option Addr) (len cap i : Nat) (h : i ≤ len) (w : World) : (Instr.slice 36 (.slice q len cap) (some (.int .i64 (i : Int))) none none).run Tryd.prog w = .ok (.slice (cutA q cap i 5) (len - i) (cap - i)) w := by
  have hi : (0 : Int) ≤ (i : Int) ∧ (i : Int) ≤ (len : Int) := by omega
  simp [Instr.slice, Instr.sliceBounds, Instr.sliceBound, go_sem, Tryd.underlying36, hi, run_underlying, cutA]
  intro hx; omega

theorem own_cap {w : World} {base : Nat} {e : TypeId} {size : Nat} {q : Option Addr} {n c : Nat} {xs : List Value} (h : w.ownsRow base e size (.slice q n c) n xs) : n ≤ c := by
  rcases h.2 with ⟨h, rfl⟩ | ⟨g, cap, cur, h, _, _, hc, _⟩
  · omega
  · simp only [Value.slice.injEq] at h
    omega

theorem own_lies_take {w : World} {base : Nat} {e : TypeId} {size : Nat} {q : Option Addr} {n c : Nat} {xs : List Value} (h : w.ownsRow base e size (.slice q n c) n xs) {i : Nat} (hi : i ≤ n) : Lies w size q i (xs.take (i * size)) := by
  rcases Nat.eq_zero_or_pos i with rfl | h0
  · exact .inl ⟨rfl, by simp⟩
  · right
    obtain ⟨g, cap, e, _, _⟩ := h.form (by omega)
    simp only [Value.slice.injEq, true_and] at e
    obtain ⟨rfl, rfl⟩ := e
    have hl : i * size ≤ n * size := Nat.mul_le_mul_right _ hi
    refine ⟨_, rfl, h0, by rw [List.length_take, h.1]; omega, fun j u hu => ?_⟩
    have hj : j < i * size := by
      have := (List.getElem?_eq_some_iff.1 hu).1
      rw [List.length_take] at this
      omega
    rw [List.getElem?_take, if_pos hj] at hu
    rw [Addr.add_lit, Nat.zero_add, h.cellAt j (by omega)]
    exact hu

theorem own_lies_drop {w : World} {base : Nat} {e : TypeId} {size : Nat} {q : Option Addr} {n c : Nat} {xs : List Value} (h : w.ownsRow base e size (.slice q n c) n xs) {i : Nat} (hi : i ≤ n) : Lies w size (cutA q c i size) (n - i) (xs.drop (i * size)) := by
  rcases Nat.eq_zero_or_pos (n - i) with h0 | h0
  · refine .inl ⟨h0, ?_⟩
    have e : n = i := by omega
    exact List.drop_of_length_le (by rw [h.1, e]; exact Nat.le_refl _)
  · right
    have hc := own_cap h
    obtain ⟨g, cap, e, _, _⟩ := h.form (by omega)
    simp only [Value.slice.injEq, true_and] at e
    obtain ⟨rfl, rfl⟩ := e
    refine ⟨(⟨g, 0, none⟩ : Addr).add (i * size), by unfold cutA; rw [if_neg (by omega)]; rfl, h0, by rw [List.length_drop, h.1, Nat.sub_mul], fun j u hu => ?_⟩
    have hj : j < (n - i) * size := by
      have := (List.getElem?_eq_some_iff.1 hu).1
      rw [List.length_drop, h.1] at this
      rw [Nat.sub_mul]; omega
    rw [List.getElem?_drop] at hu
    have hm : i * size ≤ n * size := Nat.mul_le_mul_right _ hi
    rw [Nat.sub_mul] at hj
    rw [Deep.add_add, Addr.add_lit, Nat.zero_add, h.cellAt (i * size + j) (by omega)]
    exact hu

theorem step_append_row {P : Program} {w : World} {ops : Array Oper} {o : Oper} {a : Act} {K : Act → World → Prop} {Q : Exit → Act → World → Prop} {E : Prop} (hgd : o.guard = none) (s x : Operand) (t : TypeId)
    (ho : o.op = .call { callee := .builtin .append, args := #[s, x], argTypes := #[t, t] })
    (base : Nat) (e : TypeId) (i : TypeInfo) (z : Value) (size bytes : Nat) (ht : P.underlying t = some (.slice e)) (hi : P.info? e = some i) (hz : i.zero = some z)
    (hsize : i.size = size) (hby : i.bytes = bytes) (hzs : z.cells.size = size) (hsz : 0 < size)
    (v : Value) (n : Nat) (xs : List Value) (hs : a.eval s = v) (hown : w.ownsRow base e size v n xs)
    (p : Option Addr) (m c : Nat) (news : List Value) (hx : a.eval x = .slice p m c) (hl : Lies w size p m news) (h1 : ∀ u ∈ news, u.oneCell' = true)
    (h63 : n + m ≤ maxLen) (hbytes : (n + m) * bytes ≤ 140737488355328) (hbase : base ≤ w.heap.size)
    (h : ∀ v' w', w'.ownsRow base e size v' (n + m) (xs ++ news) → w.grownBy w' v.ownBlock → K (a.put o.dst v') w') :
    if Region.wanted o (yielded ops a.tmps) = true then Oper.wp P o a w K Q else E := by
  rcases hl with ⟨rfl, rfl⟩ | ⟨ad, rfl, hm, hl, hn⟩
  · have hw : Region.wanted o (yielded ops a.tmps) = true := by simp [Region.wanted, hgd]
    rw [if_pos hw]
    have hrun := run_append_zero (P := P) (w := w) base t o.type e i size ht hi v n xs hown p c
    unfold Oper.wp execOp
    simp only [ho, resolve, invoke, builtin, Sem.run_bind, Sem.run_pure, Result.andThen_ok, List.map_toArray, List.map_cons, List.map_nil, hs, hx, hrun]
    exact h v w (by simpa using hown) (World.grownBy.refl _ _)
  · exact step_append_lies w hgd s x t ho base e i z size bytes ht hi hz hsize hby hzs hsz v n xs hs hown ad m c news hx hl hn h1 hm h63 hbytes hbase _ rfl (fun g cap w' r1 r2 _ _ => h _ w' r1 r2)

/-- A row of the call's own, laid behind all that stood at the start: an append to it leaves that as it was. -/
theorem below_own {w0 w w' : World} {e : TypeId} {size : Nat} {v : Value} {n : Nat} {xs : List Value} (hb : Below w0.heap.size w0 w) (h : w.ownsRow w0.heap.size e size v n xs) (hg : w.grownBy w' v.ownBlock) : Below w0.heap.size w0 w' :=
  Below.grown hb hg hb.size fun _ hk => (own_lt h hk).1

end Go.Proofs.YtmleipmilmeclaaDoor
