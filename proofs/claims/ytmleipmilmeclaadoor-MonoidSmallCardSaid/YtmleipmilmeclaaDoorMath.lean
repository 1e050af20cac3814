/- Plain facts on sums of 128 bits: a number is told by its two halves. -/
import Derived.Test.YtmleipmilmeclaaDoorProg
import Derived.WalkKit
namespace Go.Proofs.YtmleipmilmeclaaDoor
open Go.RowKit

/-- the two halves of a number -/
def hi (s : Int) : Int := s / 18446744073709551616
def lo (s : Int) : Int := s % 18446744073709551616
/-- a number of the kind int64; a sum that two halves hold, with room -/
def I64 (n : Int) : Prop := -9223372036854775808 ≤ n ∧ n ≤ 9223372036854775807
def S120 (n : Int) : Prop := -1329227995784915872903807060280344576 ≤ n ∧ n ≤ 1329227995784915872903807060280344576
abbrev hl (s : Int) : Value := .agg #[.int .i64 (hi s), .int .u64 (lo s)]

instance (n : Int) : Decidable (I64 n) := by unfold I64; infer_instance
theorem wrap_u64 (n : Int) : IntKind.u64.wrap n = n % 18446744073709551616 := by
  simp [IntKind.wrap, IntKind.bits, IntKind.signed]

theorem of_hi {n : Int} (h : I64 n) : n / 9223372036854775808 = hi n := by unfold hi; unfold I64 at h; omega
theorem of_lo (n : Int) : IntKind.u64.wrap n = lo n := wrap_u64 n

theorem lo_bd (s : Int) : 0 ≤ lo s ∧ lo s ≤ 18446744073709551615 := by unfold lo; omega
theorem hi_bd {s : Int} (h : S120 s) : -72057594037927936 ≤ hi s ∧ hi s ≤ 72057594037927936 := by unfold hi; unfold S120 at h; omega
theorem hl_eq (s : Int) : s = hi s * 18446744073709551616 + lo s := by unfold hi lo; omega

theorem plus_lo (s t : Int) : IntKind.u64.wrap (lo s + lo t) = lo (s + t) := by rw [wrap_u64]; unfold lo; omega
theorem plus_hi_carry {s t : Int} (h : lo (s + t) < lo s) : hi s + hi t + 1 = hi (s + t) := by unfold hi; unfold lo at h; omega
theorem plus_hi_none {s t : Int} (h : lo s ≤ lo (s + t)) : hi s + hi t = hi (s + t) := by unfold hi; unfold lo at h; omega
theorem above_iff (s t : Int) : (hi s > hi t ∨ (hi s = hi t ∧ lo s > lo t)) ↔ s > t := by unfold hi lo; omega
theorem eq_iff (s t : Int) : (hi s = hi t ∧ lo s = lo t) ↔ s = t := by unfold hi lo; omega
theorem lo_back {s : Int} (h : I64 s) : IntKind.i64.wrap (lo s) = s := by
  rw [IntKind.wrap_i64]; unfold lo; unfold I64 at h; omega
theorem wrap_lo_I64 (s : Int) : I64 (IntKind.i64.wrap (lo s)) := by
  rw [IntKind.wrap_i64]; unfold lo I64; omega
theorem fits_iff (s : Int) : IntKind.i64.wrap (lo s) = s ↔ I64 s := by
  rw [IntKind.wrap_i64]; unfold lo I64; omega

end Go.Proofs.YtmleipmilmeclaaDoor
namespace Go.Proofs.YtmleipmilmeclaaDoor
open Go.RowKit

/-- a reduction: how many rows, how many with a number, the sum, the least, the most -/
structure R where
  c : Int
  i : Int
  s : Int
  l : Int
  m : Int

abbrev rv (r : R) : Value := .agg #[.int .i64 r.c, .int .i64 r.i, .int .i64 (hi r.s), .int .u64 (lo r.s), .int .i64 r.l, .int .i64 r.m]
def R.zero : R := ⟨0, 0, 0, 0, 0⟩
def R.one (n : Int) : R := ⟨1, 1, n, n, n⟩
def R.none : R := ⟨1, 0, 0, 0, 0⟩
/-- may it be? -/
def R.fine (r : R) : Prop :=
  if r.i = 0 then r.s = 0 ∧ r.l = 0 ∧ r.m = 0
  else if r.i = 1 then r.l = r.m ∧ r.s = r.l
  else r.l ≤ r.m ∧ r.l + r.m + r.l * (r.i - 2) ≤ r.s ∧ r.s ≤ r.l + r.m + r.m * (r.i - 2)
instance (r : R) : Decidable r.fine := by unfold R.fine; infer_instance
structure R.Num (r : R) : Prop where
  c0 : 0 ≤ r.c
  c1 : r.c ≤ 1073741824
  i0 : 0 ≤ r.i
  i1 : r.i ≤ r.c
  l : I64 r.l
  m : I64 r.m
  s : S120 r.s
structure R.Ok (r : R) : Prop extends R.Num r where
  fine : r.fine
def R.both (r t : R) : R :=
  if t.i = 0 then ⟨r.c + t.c, r.i, r.s, r.l, r.m⟩
  else if r.i > 0 then ⟨r.c + t.c, r.i + t.i, r.s + t.s, min r.l t.l, max r.m t.m⟩
  else ⟨r.c + t.c, r.i + t.i, r.s + t.s, t.l, t.m⟩

theorem mul_S120 {n x : Int} (h : I64 n) (h0 : 0 ≤ x) (h1 : x ≤ 4294967296) : -39614081257132168796771975168 ≤ n * x ∧ n * x ≤ 39614081257132168796771975168 := by
  unfold I64 at h
  have a1 : -9223372036854775808 * x ≤ n * x := Int.mul_le_mul_of_nonneg_right h.1 h0
  have a2 : n * x ≤ 9223372036854775807 * x := Int.mul_le_mul_of_nonneg_right h.2 h0
  omega

theorem R.Ok.zero : R.zero.Ok := by
  refine ⟨⟨?_, ?_, ?_, ?_, ?_, ?_, ?_⟩, ?_⟩ <;> simp [R.zero, I64, S120, R.fine]
theorem R.Ok.one {n : Int} (h : I64 n) : (R.one n).Ok := by
  unfold I64 at h
  refine ⟨⟨?_, ?_, ?_, ?_, ?_, ?_, ?_⟩, ?_⟩ <;> simp [R.one, I64, S120, R.fine] <;> omega
theorem R.Ok.none : R.none.Ok := by
  refine ⟨⟨?_, ?_, ?_, ?_, ?_, ?_, ?_⟩, ?_⟩ <;> simp [R.none, I64, S120, R.fine]

/-- what is fine with a number: the sum lies between -/
theorem R.Ok.mid {r : R} (h : r.Ok) (hi : r.i ≠ 0) : r.l ≤ r.m ∧ r.m + r.l * (r.i - 1) ≤ r.s ∧ r.s ≤ r.l + r.m * (r.i - 1) := by
  have hf := h.fine
  unfold R.fine at hf
  rw [if_neg hi] at hf
  by_cases h1 : r.i = 1
  · rw [if_pos h1] at hf; rw [h1]; omega
  · rw [if_neg h1] at hf
    have e1 : r.l * (r.i - 1) = r.l * (r.i - 2) + r.l := by rw [show r.i - 1 = (r.i - 2) + 1 by omega, Int.mul_add]; omega
    have e2 : r.m * (r.i - 1) = r.m * (r.i - 2) + r.m := by rw [show r.i - 1 = (r.i - 2) + 1 by omega, Int.mul_add]; omega
    omega

theorem R.fine_of_mid {r : R} (hi : 1 ≤ r.i) (h : r.l ≤ r.m ∧ r.m + r.l * (r.i - 1) ≤ r.s ∧ r.s ≤ r.l + r.m * (r.i - 1)) : r.fine := by
  unfold R.fine
  rw [if_neg (by omega)]
  by_cases h1 : r.i = 1
  · rw [if_pos h1]; rw [h1] at h; simp at h; omega
  · rw [if_neg h1]
    have e1 : r.l * (r.i - 1) = r.l * (r.i - 2) + r.l := by rw [show r.i - 1 = (r.i - 2) + 1 by omega, Int.mul_add]; omega
    have e2 : r.m * (r.i - 1) = r.m * (r.i - 2) + r.m := by rw [show r.i - 1 = (r.i - 2) + 1 by omega, Int.mul_add]; omega
    omega

theorem R.Ok.sum_bd {r : R} (h : r.Ok) : -9223372036854775808 * r.i ≤ r.s ∧ r.s ≤ 9223372036854775808 * r.i := by
  by_cases hi : r.i = 0
  · have hf := h.fine; unfold R.fine at hf; rw [if_pos hi] at hf; omega
  · have := h.mid hi
    have hl := h.l; have hm := h.m; have i0 := h.i0
    unfold I64 at hl hm
    have a1 : -9223372036854775808 * (r.i - 1) ≤ r.l * (r.i - 1) := Int.mul_le_mul_of_nonneg_right hl.1 (by omega)
    have a2 : r.m * (r.i - 1) ≤ 9223372036854775807 * (r.i - 1) := Int.mul_le_mul_of_nonneg_right hm.2 (by omega)
    omega

theorem R.Ok.both {r t : R} (hr : r.Ok) (ht : t.Ok) (hc : r.c + t.c ≤ 1073741824) : (r.both t).Ok := by
  have r0 := hr.c0; have t0 := ht.c0; have r1 := hr.i0; have r2 := hr.i1; have t1 := ht.i0; have t2 := ht.i1
  have sr := hr.sum_bd; have st := ht.sum_bd
  unfold R.both
  by_cases h1 : t.i = 0
  · rw [if_pos h1]
    refine ⟨⟨by simp; omega, by simpa using hc, by simpa using r1, by simp; omega, hr.l, hr.m, hr.s⟩, ?_⟩
    have := hr.fine
    unfold R.fine at *; exact this
  · rw [if_neg h1]
    have mt := ht.mid h1
    by_cases h2 : r.i > 0
    · rw [if_pos h2]
      have mr := hr.mid (by omega)
      have rl := hr.l; have rm := hr.m; have tl := ht.l; have tm := ht.m
      refine ⟨⟨by simp; omega, by simpa using hc, by simp; omega, by simp; omega, ?_, ?_, ?_⟩, R.fine_of_mid (by simp; omega) ?_⟩
      · unfold I64 at *; simp only; omega
      · unfold I64 at *; simp only; omega
      · unfold S120; simp only; omega
      · simp only
        generalize hL : min r.l t.l = L
        generalize hM : max r.m t.m = M
        have b1 : L * (r.i - 1) ≤ r.l * (r.i - 1) := Int.mul_le_mul_of_nonneg_right (by omega) (by omega)
        have b2 : L * (t.i - 1) ≤ t.l * (t.i - 1) := Int.mul_le_mul_of_nonneg_right (by omega) (by omega)
        have b3 : r.m * (r.i - 1) ≤ M * (r.i - 1) := Int.mul_le_mul_of_nonneg_right (by omega) (by omega)
        have b4 : t.m * (t.i - 1) ≤ M * (t.i - 1) := Int.mul_le_mul_of_nonneg_right (by omega) (by omega)
        have e1 : L * (r.i + t.i - 1) = L * (r.i - 1) + L * (t.i - 1) + L := by
          rw [show r.i + t.i - 1 = (r.i - 1) + (t.i - 1) + 1 by omega, Int.mul_add, Int.mul_add]; omega
        have e2 : M * (r.i + t.i - 1) = M * (r.i - 1) + M * (t.i - 1) + M := by
          rw [show r.i + t.i - 1 = (r.i - 1) + (t.i - 1) + 1 by omega, Int.mul_add, Int.mul_add]; omega
        omega
    · rw [if_neg h2]
      have h3 : r.i = 0 := by omega
      have fr := hr.fine; unfold R.fine at fr; rw [if_pos h3] at fr
      refine ⟨⟨by simp; omega, by simpa using hc, by simp; omega, by simp; omega, ht.l, ht.m, ?_⟩, R.fine_of_mid (by simp; omega) ?_⟩
      · unfold S120; simp only; omega
      · simp only [h3, fr.1, Int.zero_add]; exact mt

theorem R.both_c (r t : R) : (r.both t).c = r.c + t.c := by
  unfold R.both; split
  · rfl
  · split <;> rfl

attribute [irreducible] hi lo
end Go.Proofs.YtmleipmilmeclaaDoor
