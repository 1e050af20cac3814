/- Walks of the small functions of package monoid. -/
import Derived.Test.YtmleipmilmeclaaDoorXMath
import Derived.Deep.RegionHeld3
import Derived.Deep.DrawnRows
import Derived.BigQuiet
import Derived.Deep.DeepCutAuto
namespace Go.Proofs.YtmleipmilmeclaaDoor
open Go.RowKit
attribute [local go_sem ↓] Go.wp_at_zero Go.wp_at_succ

theorem eql92 (a b c d : Int) (w : World) : (Go.binOp .eql 92 (.agg #[.int .i64 a, .int .u64 b]) (.agg #[.int .i64 c, .int .u64 d])).run Tryd.prog w = .ok (.bool (decide (a = c ∧ b = d))) w := by
  simp [Go.binOp, Op.equal, Op.maxDepth, run_equalIn_struct, Tryd.underlying92, Tryd.underlying90, go_sem]
  by_cases h1 : a = c <;> by_cases h2 : b = d <;> simp [h1, h2]
theorem eql30 (a b c d e f a' b' c' d' e' f' : Int) (w : World) : (Go.binOp .eql 30 (.agg #[.int .i64 a, .int .i64 b, .int .i64 c, .int .u64 d, .int .i64 e, .int .i64 f]) (.agg #[.int .i64 a', .int .i64 b', .int .i64 c', .int .u64 d', .int .i64 e', .int .i64 f'])).run Tryd.prog w = .ok (.bool (decide (a = a' ∧ b = b' ∧ c = c' ∧ d = d' ∧ e = e' ∧ f = f'))) w := by
  simp [Go.binOp, Op.equal, Op.maxDepth, run_equalIn_struct, Tryd.underlying30, go_sem]
  by_cases h1 : a = a' <;> by_cases h2 : b = b' <;> by_cases h3 : c = c' <;> by_cases h4 : d = d' <;> by_cases h5 : e = e' <;> by_cases h6 : f = f' <;> simp [h1, h2, h3, h4, h5, h6]
set_option maxHeartbeats 400000 in
theorem of_any (n : Int) (h : I64 n) (w : World) :
    Calls Tryd.prog 47 #[.int .i64 n] w fun e w' => e = .returned (hl n) ∧ Below w.heap.size w w' := by
  have h1 := Lib.hid (of_hi h)
  go_enter Tryd.func47, Tryd.ntmps47
  go_wp2
  refine bodyPost_ret (v := hl n) (by simp [results, Tryd.results47, go_sem, hl]; exact ⟨h1.out, of_lo n⟩) rfl ⟨rfl, ?_⟩
  go_grown

set_option maxHeartbeats 400000 in
theorem plus_any (s t : Int) (hs : S120 s) (ht : S120 t) (w : World) :
    Calls Tryd.prog 51 #[hl s, hl t] w fun e w' => e = .returned (hl (s + t)) ∧ Below w.heap.size w w' := by
  have b1 := hi_bd hs
  have b2 := hi_bd ht
  unfold hl
  have e1 := plus_lo s t
  have hc := Lib.hid (@plus_hi_carry s t)
  have hn := Lib.hid (@plus_hi_none s t)
  generalize hi s = a at *
  generalize lo s = b at *
  generalize hi t = c at *
  generalize lo t = d at *
  generalize hi (s + t) = x at *
  generalize lo (s + t) = y at *
  clear hs ht
  go_enter Tryd.func51, Tryd.ntmps51
  go_wp2
  · rename_i h
    have := hc.out h; subst this
    refine bodyPost_ret (v := .agg #[.int .i64 (a + c + 1), .int .u64 y]) (by simp [results, Tryd.results51, go_sem]) rfl ⟨rfl, ?_⟩
    go_grown
  · rename_i h
    have := hn.out h; subst this
    refine bodyPost_ret (v := .agg #[.int .i64 (a + c), .int .u64 y]) (by simp [results, Tryd.results51, go_sem]) rfl ⟨rfl, ?_⟩
    go_grown

set_option maxHeartbeats 400000 in
theorem fits_any (s : Int) (w : World) :
    Calls Tryd.prog 82 #[hl s] w fun e w' => e = .returned (.bool (decide (I64 s))) ∧ Below w.heap.size w w' := by
  have hq := Lib.hid (fits_iff s)
  have he := Lib.hid (eq_iff s (IntKind.i64.wrap (lo s)))
  have e0 := wrap_lo_I64 s
  simp only [hl]
  generalize hi s = a at *
  generalize lo s = b at *
  have q := eql92
  go_enter Tryd.func82, Tryd.ntmps82
  go_wp2
  go_region_held3 (fun w' => w'.cell? ⟨w.heap.size, 0, none⟩ = some (.int .i64 a) ∧ w'.cell? ⟨w.heap.size, 1, none⟩ = some (.int .u64 b)) (go_keep)
    (first | (go_at_call 47; refine (of_any _ e0 _).mono ?_; rintro e w1 ⟨rfl, hb⟩; obtain ⟨hc, hf⟩ := bcell hb))
  go_wp2
  go_ret
  refine ⟨ret_bool ?_, Below.after (by go_grown) hb (by simp)⟩
  rw [Bool.eq_iff_iff]
  simp only [Bool.and_eq_true, decide_eq_true_eq]
  rw [he.out, ← hq.out]
  exact eq_comm

set_option maxHeartbeats 400000 in
theorem above_any (s t : Int) (w : World) :
    Calls Tryd.prog 50 #[hl s, hl t] w fun e w' => e = .returned (.bool (decide (s > t))) ∧ Below w.heap.size w w' := by
  have hq := Lib.hid (above_iff s t)
  simp only [hl]
  generalize hi s = a at *
  generalize lo s = b at *
  generalize hi t = c at *
  generalize lo t = d at *
  go_enter Tryd.func50, Tryd.ntmps50
  go_wp2
  all_goals
    go_ret
    refine ⟨ret_bool ?_, by go_grown⟩
    have h1 := hq.out
    rw [Bool.eq_iff_iff]
    simp only [decide_eq_true_eq, true_iff]
    omega

set_option maxHeartbeats 400000 in
theorem with_any (c i h x l m s : Int) (w : World) :
    Calls Tryd.prog 46 #[.agg #[.int .i64 c, .int .i64 i, .int .i64 h, .int .u64 x, .int .i64 l, .int .i64 m], hl s] w fun e w' => e = .returned (rv ⟨c, i, s, l, m⟩) ∧ Below w.heap.size w w' := by
  simp only [rv, hl]
  go_enter Tryd.func46, Tryd.ntmps46
  go_wp2
  go_region_held3 (fun w' => w'.cell? ⟨w.heap.size + 1, 0, none⟩ = some (.int .i64 (hi s)) ∧ w'.cell? ⟨w.heap.size + 1, 1, none⟩ = some (.int .u64 (lo s))) (go_keep) (fail)
  all_goals go_wp2
  all_goals exact bodyPost_ret (v := rv ⟨c, i, s, l, m⟩) (by simp [results, Tryd.results46, go_sem]) rfl ⟨rfl, by go_grown⟩

set_option maxHeartbeats 400000 in
theorem total_any (r : R) (w : World) :
    Calls Tryd.prog 48 #[rv r] w fun e w' => e = .returned (hl r.s) ∧ Below w.heap.size w w' := by
  obtain ⟨c, i, s, l, m⟩ := r
  simp only [rv, hl]
  go_enter Tryd.func48, Tryd.ntmps48
  go_wp2
  exact bodyPost_ret (v := hl s) (by simp [results, Tryd.results48, go_sem]) rfl ⟨rfl, by go_grown⟩
def TimesRel (n K : Int) (w : World) (p k : Value) (wr : World) : Prop :=
  ∃ (b : Nat) (j q x : Int), p = .pointer (some ⟨b, 0, none⟩) ∧ k = .int .i64 q ∧ 0 ≤ q ∧ 0 ≤ x ∧ x + q * j = K ∧ 1 ≤ j ∧ j ≤ 4294967296 ∧ q * j ≤ 2147483648 ∧
    w.heap.size + 1 < b ∧ Blk wr b #[.int .i64 (hi (n * j)), .int .u64 (lo (n * j))] 92 ∧ Blk wr (w.heap.size + 1) #[.int .i64 (hi (n * x)), .int .u64 (lo (n * x))] 92 ∧
    Blk wr w.heap.size #[.int .i64 0, .int .u64 0] 92 ∧ Below w.heap.size w wr

theorem times_step {j q : Int} (hq : 0 < q) (hj : 1 ≤ j) (h : q * j ≤ 2147483648) : j ≤ 2147483648 ∧ (q / 2) * (j + j) ≤ 2147483648 ∧ (q % 2 = 1 → (q / 2) * (j + j) = q * j - j) ∧ (q % 2 = 0 → (q / 2) * (j + j) = q * j) := by
  have a1 : 1 * j ≤ q * j := Int.mul_le_mul_of_nonneg_right (by omega) (by omega)
  have e : (q / 2) * (j + j) = (q / 2 * 2) * j := by rw [Int.mul_add, Int.mul_assoc]; rw [show (2:Int) * j = j + j by omega, Int.mul_add]
  have a2 : (q / 2 * 2) * j ≤ q * j := Int.mul_le_mul_of_nonneg_right (by omega) (by omega)
  refine ⟨by omega, by omega, fun h1 => ?_, fun h1 => ?_⟩
  · rw [e, show q / 2 * 2 = q - 1 by omega, Int.sub_mul]; omega
  · rw [e, show q / 2 * 2 = q by omega]

theorem i64_and1 (n : Int) : bits .and .i64 n 1 = n % 2 := by
  have h1 : (BitVec.ofInt 64 1).toNat = 2 ^ 1 - 1 := by decide
  have key : (BitVec.ofInt 64 n &&& BitVec.ofInt 64 1).toNat = (n % ((2 ^ 64 : Nat) : Int)).toNat % 2 ^ 1 := by
    rw [BitVec.toNat_and, BitVec.toNat_ofInt, h1, Nat.and_two_pow_sub_one_eq_mod]
  show IntKind.i64.wrap ((BitVec.ofInt 64 n &&& BitVec.ofInt 64 1).toNat : Nat) = n % 2
  rw [key, IntKind.wrap_i64]
  omega
theorem S120.of {s : Int} (h : -39614081257132168796771975168 ≤ s ∧ s ≤ 39614081257132168796771975168) : S120 s := by unfold S120; omega

set_option maxHeartbeats 400000 in
theorem times_any (n K : Int) (hn : I64 n) (h0 : 0 ≤ K) (h1 : K ≤ 2147483648) (w : World) :
    Calls Tryd.prog 65 #[.int .i64 n, .int .i64 K] w fun e w' => e = .returned (hl (n * K)) ∧ Below w.heap.size w w' := by
  go_enter Tryd.func65, Tryd.ntmps65
  go_wp2_with (go_at_call 47; refine (of_any _ hn _).mono ?_; rintro e w1 ⟨rfl, hb⟩; obtain ⟨hc, hf⟩ := bcell hb)
  go_loopw [6, 1] (fun p k wr => TimesRel n K w p k wr) (fun _ k _ => (intOf k).toNat)
  case atStart =>
    have b0 := ((Blk.new w #[.int .i64 0, .int .u64 0] 92).alloc (.cells #[.int .i64 0, .int .u64 0] 92)).kept hb
    have b1 := (Blk.new (w.alloc (.cells #[.int .i64 0, .int .u64 0] 92)) #[.int .i64 0, .int .u64 0] 92).kept hb
    have hz := hb.size
    simp at hz
    refine ⟨w1.heap.size, 1, K, 0, rfl, rfl, h0, by omega, by omega, by omega, by omega, by omega, by omega, by simpa using Blk.new w1 _ 92, by simpa [hi, lo] using b1.alloc _, by simpa using b0.alloc _, Below.alloc (Below.after (by go_grown) hb (by go_size)) (by omega) _⟩
  case round =>
    obtain ⟨b, j, q, x, rfl, rfl, q0, x0, hk, j1, j2, hqj, hbz, hb1, hb2, hb3, hbw⟩ := hrel
    have c0 := hb1.cell 0
    have c1 := hb1.cell 1
    have d0 := hb2.cell 0
    have d1 := hb2.cell 1
    have f0 := hb1.frozen 0
    have f1 := hb1.frozen 1
    have g0 := hb2.frozen 0
    have g1 := hb2.frozen 1
    simp at c0 c1 d0 d1
    have l1 := hb1.lt
    have l2 := hb2.lt
    have l3 := hb3.lt
    by_cases hq : 0 < q
    · obtain ⟨s1, s2, s3, s4⟩ := times_step hq j1 hqj
      have hx : x ≤ 2147483648 := by have : 0 ≤ q * j := Int.mul_nonneg q0 (by omega); omega
      have S1 := S120.of (mul_S120 hn x0 (by omega))
      have S2 := S120.of (mul_S120 hn (show 0 ≤ j by omega) (by omega))
      clear h0 h1
      have hz := hbw.size
      have hk := Lib.hid hk
      by_cases ho : q % 2 = 1
      · have hand : (bits .and .i64 q 1 == 1) = true := by rw [i64_and1]; simp [ho]
        have s3 := Lib.hid (s3 ho)
        clear ho s4
        go_wp2_with fail
        refine (plus_any _ _ S1 S2 _).mono ?_; rintro e w2 ⟨rfl, hb4⟩; obtain ⟨hc4, hf4⟩ := bcell hb4
        have z4 := hb4.size
        have l4 : b < w2.heap.size := by omega
        have l5 : w.heap.size + 1 < w2.heap.size := by omega
        go_wp2_with fail
        refine (plus_any _ _ S2 S2 _).mono ?_; rintro e w3 ⟨rfl, hb5⟩; obtain ⟨hc5, hf5⟩ := bcell hb5
        have z5 := hb5.size
        simp only [World.size_setCell] at z5
        have l6 : b < w3.heap.size := by omega
        have l7 : w.heap.size + 1 < w3.heap.size := by omega
        clear hc hf
        go_wp2
        go_roundw
        case rel =>
          have e1 := s3.out
          have e2 := hk.out
          refine ⟨w3.heap.size, j + j, q / 2, x + j, rfl, rfl, by omega, by omega, by omega, by omega, by omega, s2, by omega, ?_, ?_, ?_, ?_⟩
          · simpa [Int.mul_add] using Blk.new ((w3.setCell ⟨b, 0, none⟩ (Value.int IntKind.i64 (hi (n * j + n * j)))).setCell ⟨b, 1, none⟩ (Value.int IntKind.u64 (lo (n * j + n * j)))) _ 92
          · refine Blk.alloc (Blk.far (Blk.far (Blk.kept ?_ hb5) _ (by simp; omega)) _ (by simp; omega)) _
            simpa [Int.mul_add] using ((hb2.kept hb4).set 0 (Value.int IntKind.i64 (hi (n * x + n * j)))).set 1 (Value.int IntKind.u64 (lo (n * x + n * j)))
          · exact Blk.alloc (Blk.far (Blk.far (Blk.kept (Blk.far (Blk.far (hb3.kept hb4) _ (by simp)) _ (by simp)) hb5) _ (by simp; omega)) _ (by simp; omega)) _
          · exact Below.alloc (Below.setCell (Below.setCell (Below.after (Below.setCell (Below.setCell (Below.after hbw hb4 (by go_size)) (by simp) _) (by simp) _) hb5 (by go_size)) (by simp; omega) _) (by simp; omega) _) (by go_size) _
        case measure => simp [intOf]; omega
      · have ho : q % 2 = 0 := by omega
        have hand : (bits .and .i64 q 1 == 1) = false := by rw [i64_and1]; simp [ho]
        have s4 := Lib.hid (s4 ho)
        clear ho s3
        go_wp2_with fail
        refine (plus_any _ _ S2 S2 _).mono ?_; rintro e w3 ⟨rfl, hb5⟩; obtain ⟨hc5, hf5⟩ := bcell hb5
        have z5 := hb5.size
        have l6 : b < w3.heap.size := by omega
        have l7 : w.heap.size + 1 < w3.heap.size := by omega
        clear hc hf
        go_wp2
        go_roundw
        case rel =>
          have e1 := s4.out
          have e2 := hk.out
          refine ⟨w3.heap.size, j + j, q / 2, x, rfl, rfl, by omega, by omega, by omega, by omega, by omega, s2, by omega, ?_, ?_, ?_, ?_⟩
          · simpa [Int.mul_add] using Blk.new ((w3.setCell ⟨b, 0, none⟩ (Value.int IntKind.i64 (hi (n * j + n * j)))).setCell ⟨b, 1, none⟩ (Value.int IntKind.u64 (lo (n * j + n * j)))) _ 92
          · exact Blk.alloc (Blk.far (Blk.far (hb2.kept hb5) _ (by simp; omega)) _ (by simp; omega)) _
          · exact Blk.alloc (Blk.far (Blk.far (hb3.kept hb5) _ (by simp; omega)) _ (by simp; omega)) _
          · exact Below.alloc (Below.setCell (Below.setCell (Below.after hbw hb5 (by go_size)) (by simp; omega) _) (by simp; omega) _) (by go_size) _
        case measure => simp [intOf]; omega
    · have e0 := hb3.cell 0
      have e1 := hb3.cell 1
      have e2 := hb3.frozen 0
      have e3 := hb3.frozen 1
      simp at e0 e1
      have hq0 : q = 0 := by omega
      have hx : x = K := by rw [hq0] at hk; omega
      subst hx
      have hk := Lib.hid hk
      have hq0 := Lib.hid hq0
      have z := hbw.size
      clear hc hf
      go_wp2
      refine bodyPost_ret (v := hl (n * x)) (by simp [results, Tryd.results65, go_sem, *]) rfl ⟨rfl, ?_⟩
      exact Below.setCell (Below.setCell hbw (by simp) _) (by simp) _
end Go.Proofs.YtmleipmilmeclaaDoor
