/- Walk: MonoidComes, where there are no numbers. -/
import Derived.Test.YtmleipmilmeclaaDoorWq
namespace Go.Proofs.YtmleipmilmeclaaDoor
open Go.RowKit
attribute [local go_sem ↓] Go.wp_at_zero Go.wp_at_succ

set_option maxRecDepth 100000 in
set_option maxHeartbeats 8000000 in
theorem comes_zero (p : Option Addr) (cap : Nat) (hp : p = none ∧ cap = 0 ∨ ∃ a, p = some a) (w : World) :
    Calls Tryd.prog 3 #[.slice p 0 cap] w fun e w' => e = .returned (.bool true) ∧ Below w.heap.size w w' := by
  have ok1 := redOf_ok [] (by simp) (by simp) 0
  obtain ⟨s0, sl, sm⟩ := (turned [] (by simp)).sum
  have c1 : (redOf []).c ≤ 0 := redOf_c [] 0
  have h7 := all_nil
  simp only [List.take_nil, List.map_nil] at ok1 s0 sl sm
  generalize redOf [] = ra at *
  have h8 := fun b W h => join2 ra ra ok1 ok1 (by omega) b W h
  have okq := ok1.both ok1 (by omega)
  generalize ra.both ra = q at *
  have h9 := fun W => tell_sum q okq (by rw [s0]; unfold I64; omega) W
  rw [s0] at h9
  have h7' := Lib.hid h7
  have h8' := Lib.hid h8
  have h9' := Lib.hid h9
  unfold I63 at sm
  obtain ⟨qc, qi, qs, ql, qm⟩ := q
  simp only at sl sm s0
  subst ql qs
  clear h7 h8 h9 ok1 okq c1
  obtain ⟨ac, ai, asu, al, am⟩ := ra
  simp only [rv] at h7' h8' h9'
  rcases hp with ⟨rfl, rfl⟩ | ⟨a, rfl⟩
  all_goals
    go_enter Tryd.func3, Tryd.ntmps3
    go_wp2_with (go_at_call 6; refine (wakes_any _).mono ?_; rintro e w1 ⟨rfl, hb1⟩; have z1 := hb1.size)
    go_loopw [4, 5, 25] (fun v1 v2 i wr => v1 = .slice none 0 0 ∧ v2 = .slice none 0 0 ∧ i = .int .i64 0 ∧ Below w.heap.size w wr) (fun _ _ _ _ => 0)
    case atStart => exact ⟨rfl, rfl, rfl, hb1⟩
    obtain ⟨rfl, rfl, rfl, hbr⟩ := hrel
    have z3 := hbr.size
    have hbr' := Lib.hid hbr
    clear hbr
    go_wp2_with (first
      | (go_at_call 7; refine (h7'.out _).mono ?_; rintro e w2 ⟨rfl, hb2⟩; have z4 := hb2.size; guard_hyp z4 : wr.heap.size ≤ w2.heap.size)
      | (go_at_call 7; refine (h7'.out _).mono ?_; clear h7'; rintro e w3 ⟨rfl, hb3⟩; obtain ⟨hc3, hf3⟩ := bcell hb3; have z5 := hb3.size; simp only [World.size_alloc] at z5 hc3 hf3; (have y5 : w2.heap.size < w3.heap.size := by omega))
      | (go_at_call 8; refine (h8'.out _ _ (by first | exact Blk.new' (by simp; done) | exact Blk.alloc (Blk.new' (by simp; done)) _)).mono ?_; clear h8'; rintro e w4 ⟨rfl, hb4⟩; have z6 := hb4.size)
      | (go_at_call 9; refine (h9'.out _).mono ?_; clear h9'; rintro e w5 ⟨rfl, hb5⟩; obtain ⟨hc5, hf5⟩ := bcell hb5; have z7 := hb5.size; simp only [World.size_alloc] at z7 hc5 hf5; (have y7 : w4.heap.size < w5.heap.size := by omega))
      | (go_at_call 10; refine (same_int 0 0 _).mono ?_; rintro e w6 ⟨rfl, hb6⟩; obtain ⟨hc6, hf6⟩ := bcell hb6; have z8 := hb6.size; simp only [World.size_alloc] at z8 hc6 hf6; (have y8 : w4.heap.size < w6.heap.size := by omega); (have y9 : w4.heap.size < w5.heap.size + 1 := by omega)))
    go_ret
    refine ⟨rfl, ?_⟩
    have s1 : w.heap.size ≤ w2.heap.size := by omega
    have s2 : w.heap.size ≤ w3.heap.size := by omega
    have s3 : w.heap.size ≤ w4.heap.size := by simp only [World.size_alloc] at z6; omega
    have s4 : w.heap.size ≤ w5.heap.size := by omega
    have a1 : Below w.heap.size w w2 := Below.after hbr'.out hb2 z3
    have a2 := Below.after (Below.alloc a1 s1 _) hb3 (by simp only [World.size_alloc]; omega)
    have a3 := Below.after (Below.alloc (Below.alloc a2 s2 _) (by simp only [World.size_alloc]; omega) _) hb4 (by simp only [World.size_alloc]; omega)
    have a4 := Below.after (Below.alloc a3 s3 _) hb5 (by simp only [World.size_alloc]; omega)
    exact Below.after (Below.alloc a4 s4 _) hb6 (by simp only [World.size_alloc]; omega)

end Go.Proofs.YtmleipmilmeclaaDoor
