/- Walks: code points. -/
import Derived.Test.YtmleipmilmeclaaDoorXMath
import Derived.WalkKit
import Derived.Deep.RegionHeld3
import Derived.Deep.DrawnRows
import Derived.BigQuiet
import Derived.Deep.QuietTactic
import Derived.Deep.DeepCutAuto
namespace Go.Proofs.YtmleipmilmeclaaDoor
open Go.RowKit
attribute [local go_sem ↓] Go.wp_at_zero Go.wp_at_succ
attribute [local go_sem] BigFrame.eval_global

/-- How many bytes a code point has. -/
def sz (p : Int) : Int := if p < 0 ∨ p > 1114111 ∨ (p ≥ 55296 ∧ p ≤ 57343) then 0 else if p < 128 then 1 else if p < 2048 then 2 else if p < 65536 then 3 else 4

set_option maxHeartbeats 1000000 in
theorem size_any (p : Int) (w : World) :
    Calls Tryd.prog 98 #[.int .i64 p] w fun e w' => e = .returned (.int .i64 (sz p)) ∧ Below w.heap.size w w' := by
  go_enter Tryd.func98, Tryd.ntmps98
  go_wp2
  all_goals go_ret
  all_goals (refine ⟨?_, by go_grown⟩)
  all_goals refine congrArg (fun n => Ending.returned (.int .i64 n)) (?_ : (_ : Int) = sz p)
  all_goals (unfold sz; (repeat' split) <;> omega)

abbrev formsC : Array Value := #[.int .i64 0, .int .i64 0, .int .i64 7, .int .i64 0, .int .i64 5, .int .i64 192, .int .i64 4, .int .i64 224, .int .i64 3, .int .i64 240]
set_option maxHeartbeats 1000000 in
theorem forms_any (w : World) :
    Calls Tryd.prog 102 #[] w fun e w' => e = .returned (.agg formsC) ∧ Below w.heap.size w w' := by
  go_enter Tryd.func102, Tryd.ntmps102
  go_wp2
  refine bodyPost_ret (v := .agg formsC) (by simp [results, Tryd.results102, go_sem]) rfl ⟨rfl, by go_grown⟩

theorem neq136 (a b c d : Int) (w : World) : (Go.binOp .neq 136 (.agg #[.int .i64 a, .int .i64 b]) (.agg #[.int .i64 c, .int .i64 d])).run Tryd.prog w = .ok (.bool (!decide (a = c ∧ b = d))) w := by
  simp [Go.binOp, Op.equal, Op.maxDepth, run_equalIn_struct, Tryd.underlying136, go_sem]
  by_cases h1 : a = c <;> by_cases h2 : b = d <;> simp [h1, h2]
theorem eql136 (a b c d : Int) (w : World) : (Go.binOp .eql 136 (.agg #[.int .i64 a, .int .i64 b]) (.agg #[.int .i64 c, .int .i64 d])).run Tryd.prog w = .ok (.bool (decide (a = c ∧ b = d))) w := by
  simp [Go.binOp, Op.equal, Op.maxDepth, run_equalIn_struct, Tryd.underlying136, go_sem]
  by_cases h1 : a = c <;> by_cases h2 : b = d <;> simp [h1, h2]

/-- The package's none. -/
structure Gl (w : World) : Prop where
  a0 : w.cell? ⟨0, 0, none⟩ = some (.int .i64 0)
  a1 : w.cell? ⟨0, 1, none⟩ = some (.int .i64 0)
  lt : 0 < w.heap.size
theorem Gl.below {B : Nat} {w w' : World} (h : Gl w) (hb : Below B w w') (hB : 0 < B) (hs : w.heap.size ≤ w'.heap.size) : Gl w' :=
  ⟨(hb.cell (p := ⟨0, 0, none⟩) hB).trans h.a0, (hb.cell (p := ⟨0, 1, none⟩) hB).trans h.a1, Nat.lt_of_lt_of_le h.lt hs⟩

/-- A first byte's mark, its bits, and how many bytes there are. -/
def ldB (b : Int) : Int := if b < 128 then 7 else if 192 ≤ b ∧ b ≤ 223 then 5 else if 224 ≤ b ∧ b ≤ 239 then 4 else if 240 ≤ b ∧ b ≤ 247 then 3 else 0
def ldM (b : Int) : Int := if b < 128 then 0 else if 192 ≤ b ∧ b ≤ 223 then 192 else if 224 ≤ b ∧ b ≤ 239 then 224 else if 240 ≤ b ∧ b ≤ 247 then 240 else 0
def ldN (b : Int) : Int := if b < 128 then 1 else if 192 ≤ b ∧ b ≤ 223 then 2 else if 224 ≤ b ∧ b ≤ 239 then 3 else if 240 ≤ b ∧ b ≤ 247 then 4 else 0

theorem idx143 (i : Nat) (h : i < 5) (w : World) : (Instr.index 143 (.agg formsC) (.int .i64 (i : Int))).run Tryd.prog w = .ok (.agg #[formsC.getD (2 * i) undef, formsC.getD (2 * i + 1) undef]) w := by
  have h5 : i = 0 ∨ i = 1 ∨ i = 2 ∨ i = 3 ∨ i = 4 := by omega
  rcases h5 with rfl | rfl | rfl | rfl | rfl <;> simp [Instr.index, run_underlying Tryd.underlying143, asIntOf, go_sem]

structure SzRel (w : World) (b : Int) (k : Nat) (wr : World) : Prop where
  r1 : 1 < k → 128 ≤ b
  r2 : 2 < k → ¬(192 ≤ b ∧ b ≤ 223)
  r3 : 3 < k → ¬(224 ≤ b ∧ b ≤ 239)
  r4 : 4 < k → ¬(240 ≤ b ∧ b ≤ 247)
  k1 : Blk wr w.heap.size #[.int .i64 0, .int .i64 0] 136
  k2 : Blk wr (w.heap.size + 1) #[.int .i64 0, .int .i64 0] 136
  bl : Below w.heap.size w wr

set_option maxHeartbeats 2000000 in
set_option maxRecDepth 100000 in
theorem sized_any (b : Int) (h0 : 0 ≤ b) (h1 : b < 256) (w : World) (hg : Gl w) :
    Calls Tryd.prog 97 #[.int .u8 b] w fun e w' => e = .returned (.tuple #[.agg #[.int .i64 (ldB b), .int .i64 (ldM b)], .int .i64 (ldN b)]) ∧ Below w.heap.size w w' := by
  obtain ⟨a0, a1, lt⟩ := hg
  have q1 := neq136
  go_enter Tryd.func97, Tryd.ntmps97
  go_wp2
  go_step3
  go_wp2
  go_step3
  go_wp2_with (go_at_call 102; refine (forms_any _).mono ?_; rintro e w1 ⟨rfl, hb1⟩; obtain ⟨hc1, hf1⟩ := bcell hb1)
  have z1 := hb1.size
  simp only [World.size_alloc] at z1 hc1 hf1
  have y0 : 0 < w1.heap.size := by omega
  have y1 : w.heap.size < w1.heap.size := by omega
  have y2 : w.heap.size + 1 < w1.heap.size := by omega
  have y3 : w.heap.size ≠ 0 := by omega
  go_loopw [10, 5] (fun i n wr => ∃ k : Nat, i = .int .i64 (k : Int) ∧ k ≤ 5 ∧ n = .int .i64 0 ∧ SzRel w b k wr) (fun i _ _ => 5 - (intOf i).toNat)
  case atStart =>
    refine ⟨0, rfl, by omega, rfl, by omega, by omega, by omega, by omega, ?_, ?_, ?_⟩
    · exact ((Blk.new w _ _).alloc _).kept hb1
    · exact Blk.kept (Blk.new' (by simp)) hb1
    · exact Below.after (by go_grown) hb1 (by go_size)
  case round =>
    obtain ⟨k, rfl, hk, rfl, r1, r2, r3, r4, k1, k2, hbw⟩ := hrel
    have c0 := k2.cell 0
    have c1 := k2.cell 1
    have d0 := (hbw.cell (p := ⟨0, 0, none⟩) lt).trans a0
    have d1 := (hbw.cell (p := ⟨0, 1, none⟩) lt).trans a1
    have l1 := k1.lt
    have l2 := k2.lt
    have l0 : 0 < wr.heap.size := by omega
    simp at c0 c1
    have f0 := k2.frozen 0
    have f1 := k2.frozen 1
    have g0 := k1.frozen 0
    have g1 := k1.frozen 1
    have p0 := k1.cell 0
    have p1 := k1.cell 1
    simp at p0 p1
    have hwb : IntKind.i64.wrap b = b := by rw [IntKind.wrap_i64]; omega
    clear a0 a1 hc1 hf1 hb1 z1 y1 y2
    have hk5 : k = 0 ∨ k = 1 ∨ k = 2 ∨ k = 3 ∨ k = 4 ∨ k = 5 := by omega
    rcases hk5 with rfl | rfl | rfl | rfl | rfl | rfl
    · have x0 := fun w => idx143 0 (by omega) w
      simp at x0
      go_wp2
      go_quiet (fail)
      all_goals go_wp2
      ·
        refine ⟨⟨1, rfl, by omega, rfl, by omega, by omega, by omega, by omega, k1.alloc _, k2.alloc _, below_drewN (Below.alloc hbw (by omega) _) _⟩, by simp [intOf]⟩
    · have x0 := fun w => idx143 1 (by omega) w
      simp at x0
      go_wp2
      go_quiet (fail)
      all_goals go_wp2
      ·
        rename_i hq
        have hq' : b / 128 = 0 := by simpa using hq
        have e1 : ldB b = 7 := by unfold ldB; (repeat' split) <;> omega
        have e2 : ldM b = 0 := by unfold ldM; (repeat' split) <;> omega
        have e3 : ldN b = 1 := by unfold ldN; (repeat' split) <;> omega
        rw [Exit.noGoto_ret]
        refine bodyPost_ret (v := .tuple #[.agg #[.int .i64 7, .int .i64 0], .int .i64 1]) (by simp [results, Tryd.results97, go_sem, *]) rfl ⟨by rw [e1, e2, e3], ?_⟩
        exact Below.set (Below.set (Below.set (Below.set (below_drewN (Below.alloc hbw (by omega) _) _) (by omega) _) (by omega) _) (by omega) _) (by omega) _
      ·
        rename_i hq
        have hq' : b / 128 ≠ 0 := by simpa using hq
        refine ⟨⟨2, rfl, by omega, rfl, by omega, by omega, by omega, by omega, k1.alloc _, k2.alloc _, below_drewN (Below.alloc hbw (by omega) _) _⟩, by simp [intOf]⟩
    · have x0 := fun w => idx143 2 (by omega) w
      simp at x0
      go_wp2
      go_quiet (fail)
      all_goals go_wp2
      ·
        rename_i hq
        have hq' : b / 32 = 6 := by simpa using hq
        have e1 : ldB b = 5 := by unfold ldB; (repeat' split) <;> omega
        have e2 : ldM b = 192 := by unfold ldM; (repeat' split) <;> omega
        have e3 : ldN b = 2 := by unfold ldN; (repeat' split) <;> omega
        rw [Exit.noGoto_ret]
        refine bodyPost_ret (v := .tuple #[.agg #[.int .i64 5, .int .i64 192], .int .i64 2]) (by simp [results, Tryd.results97, go_sem, *]) rfl ⟨by rw [e1, e2, e3], ?_⟩
        exact Below.set (Below.set (Below.set (Below.set (below_drewN (Below.alloc hbw (by omega) _) _) (by omega) _) (by omega) _) (by omega) _) (by omega) _
      ·
        rename_i hq
        have hq' : b / 32 ≠ 6 := by simpa using hq
        refine ⟨⟨3, rfl, by omega, rfl, by omega, by omega, by omega, by omega, k1.alloc _, k2.alloc _, below_drewN (Below.alloc hbw (by omega) _) _⟩, by simp [intOf]⟩
    · have x0 := fun w => idx143 3 (by omega) w
      simp at x0
      go_wp2
      go_quiet (fail)
      all_goals go_wp2
      ·
        rename_i hq
        have hq' : b / 16 = 14 := by simpa using hq
        have e1 : ldB b = 4 := by unfold ldB; (repeat' split) <;> omega
        have e2 : ldM b = 224 := by unfold ldM; (repeat' split) <;> omega
        have e3 : ldN b = 3 := by unfold ldN; (repeat' split) <;> omega
        rw [Exit.noGoto_ret]
        refine bodyPost_ret (v := .tuple #[.agg #[.int .i64 4, .int .i64 224], .int .i64 3]) (by simp [results, Tryd.results97, go_sem, *]) rfl ⟨by rw [e1, e2, e3], ?_⟩
        exact Below.set (Below.set (Below.set (Below.set (below_drewN (Below.alloc hbw (by omega) _) _) (by omega) _) (by omega) _) (by omega) _) (by omega) _
      ·
        rename_i hq
        have hq' : b / 16 ≠ 14 := by simpa using hq
        refine ⟨⟨4, rfl, by omega, rfl, by omega, by omega, by omega, by omega, k1.alloc _, k2.alloc _, below_drewN (Below.alloc hbw (by omega) _) _⟩, by simp [intOf]⟩
    · have x0 := fun w => idx143 4 (by omega) w
      simp at x0
      go_wp2
      go_quiet (fail)
      all_goals go_wp2
      ·
        rename_i hq
        have hq' : b / 8 = 30 := by simpa using hq
        have e1 : ldB b = 3 := by unfold ldB; (repeat' split) <;> omega
        have e2 : ldM b = 240 := by unfold ldM; (repeat' split) <;> omega
        have e3 : ldN b = 4 := by unfold ldN; (repeat' split) <;> omega
        rw [Exit.noGoto_ret]
        refine bodyPost_ret (v := .tuple #[.agg #[.int .i64 3, .int .i64 240], .int .i64 4]) (by simp [results, Tryd.results97, go_sem, *]) rfl ⟨by rw [e1, e2, e3], ?_⟩
        exact Below.set (Below.set (Below.set (Below.set (below_drewN (Below.alloc hbw (by omega) _) _) (by omega) _) (by omega) _) (by omega) _) (by omega) _
      ·
        rename_i hq
        have hq' : b / 8 ≠ 30 := by simpa using hq
        refine ⟨⟨5, rfl, by omega, rfl, by omega, by omega, by omega, by omega, k1.alloc _, k2.alloc _, below_drewN (Below.alloc hbw (by omega) _) _⟩, by simp [intOf]⟩
    · go_wp2
      ·
        have e1 : ldB b = 0 := by unfold ldB; (repeat' split) <;> omega
        have e2 : ldM b = 0 := by unfold ldM; (repeat' split) <;> omega
        have e3 : ldN b = 0 := by unfold ldN; (repeat' split) <;> omega
        rw [Exit.noGoto_ret]
        refine bodyPost_ret (v := .tuple #[.agg #[.int .i64 0, .int .i64 0], .int .i64 0]) (by simp [results, Tryd.results97, go_sem, *]) rfl ⟨by rw [e1, e2, e3], ?_⟩
        exact Below.set (Below.set hbw (by omega) _) (by omega) _

end Go.Proofs.YtmleipmilmeclaaDoor
