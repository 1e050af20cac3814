/- Walks: the code point whose bytes begin a row. -/
import Derived.Test.YtmleipmilmeclaaDoorXUa
namespace Go.Proofs.YtmleipmilmeclaaDoor
open Go.RowKit
attribute [local go_sem ↓] Go.wp_at_zero Go.wp_at_succ
attribute [local go_sem] BigFrame.eval_global

/-- Bytes lie in block b from o on. -/
def Bs (w : World) (b o : Nat) (L : List Int) : Prop := ∀ k (h : k < L.length), w.cell? ⟨b, o + k, none⟩ = some (.int .u8 L[k])
def Byte (x : Int) : Prop := 0 ≤ x ∧ x < 256
/-- What the bytes behind the first add. -/
def contP (p : Int) : List Int → Option Int
  | [] => some p
  | c :: r => if c / 64 = 2 then contP (p * 64 + c % 64) r else none
def maskB (b : Int) : Int := if b < 128 then b % 128 else if 192 ≤ b ∧ b ≤ 223 then b % 32 else if 224 ≤ b ∧ b ≤ 239 then b % 16 else if 240 ≤ b ∧ b ≤ 247 then b % 8 else 0
def finP (N : Int) : Option Int → Int × Int
  | none => (0, 0)
  | some p => if sz p = N then (p, N) else (0, 0)
def nextP : List Int → Int × Int
  | [] => (0, 0)
  | b :: r => if ldN b = 0 ∨ ldN b > r.length + 1 then (0, 0) else
    finP (ldN b) (contP (maskB b) (r.take (ldN b - 1).toNat))

theorem or_low (q c : Int) (h0 : 0 ≤ q) (h1 : q < 33554432) (c0 : 0 ≤ c) (c1 : c < 64) : bits .or .i64 (q * 64) c = q * 64 + c := by
  obtain ⟨a, rfl⟩ := Int.eq_ofNat_of_zero_le h0
  obtain ⟨d, rfl⟩ := Int.eq_ofNat_of_zero_le c0
  show IntKind.i64.wrap ((BitVec.ofInt 64 ((a : Int) * 64) ||| BitVec.ofInt 64 (d : Int)).toNat : Nat) = _
  have e1 : (BitVec.ofInt 64 ((a : Int) * 64)).toNat = a <<< 6 := by
    rw [BitVec.toNat_ofInt, Nat.shiftLeft_eq]
    omega
  have e2 : (BitVec.ofInt 64 (d : Int)).toNat = d := by
    rw [BitVec.toNat_ofInt]
    omega
  rw [BitVec.toNat_or, e1, e2, ← Nat.shiftLeft_add_eq_or_of_lt (by omega : d < 2 ^ 6), Nat.shiftLeft_eq, IntKind.wrap_i64]
  omega

structure Small (q : Int) (k : Nat) : Prop where
  s0 : 0 ≤ q
  s1 : k = 0 → q < 128
  s2 : k = 1 → q < 8192
  s3 : k = 2 → q < 524288
  s4 : k = 3 → q < 33554432
  s5 : q < 33554432

theorem and_mask (n : Int) (m : Nat) (hm : m ≤ 8) : bits .and .i64 n (2 ^ m - 1 : Nat) = n % (2 ^ m : Nat) := by
  have h1 : (BitVec.ofInt 64 ((2 ^ m - 1 : Nat) : Int)).toNat = 2 ^ m - 1 := by
    have : m = 0 ∨ m = 1 ∨ m = 2 ∨ m = 3 ∨ m = 4 ∨ m = 5 ∨ m = 6 ∨ m = 7 ∨ m = 8 := by omega
    rcases this with rfl | rfl | rfl | rfl | rfl | rfl | rfl | rfl | rfl <;> decide
  have key : (BitVec.ofInt 64 n &&& BitVec.ofInt 64 ((2 ^ m - 1 : Nat) : Int)).toNat = (n % ((2 ^ 64 : Nat) : Int)).toNat % 2 ^ m := by
    rw [BitVec.toNat_and, BitVec.toNat_ofInt, h1, Nat.and_two_pow_sub_one_eq_mod]
  show IntKind.i64.wrap ((BitVec.ofInt 64 n &&& BitVec.ofInt 64 ((2 ^ m - 1 : Nat) : Int)).toNat : Nat) = _
  rw [key, IntKind.wrap_i64]
  have : m = 0 ∨ m = 1 ∨ m = 2 ∨ m = 3 ∨ m = 4 ∨ m = 5 ∨ m = 6 ∨ m = 7 ∨ m = 8 := by omega
  rcases this with rfl | rfl | rfl | rfl | rfl | rfl | rfl | rfl | rfl <;> simp <;> omega

theorem ld_cases (x : Int) : (ldN x = 0 ∧ ldB x = 0 ∧ ldM x = 0) ∨ (ldN x = 1 ∧ ldB x = 7 ∧ ldM x = 0 ∧ x < 128) ∨ (ldN x = 2 ∧ ldB x = 5 ∧ ldM x = 192 ∧ 192 ≤ x ∧ x ≤ 223) ∨ (ldN x = 3 ∧ ldB x = 4 ∧ ldM x = 224 ∧ 224 ≤ x ∧ x ≤ 239) ∨ (ldN x = 4 ∧ ldB x = 3 ∧ ldM x = 240 ∧ 240 ≤ x ∧ x ≤ 247) := by
  unfold ldN ldB ldM
  (repeat' split) <;> omega

abbrev NS (w : World) (b o : Nat) (x : Int) (w' : World) : Prop := Below w.heap.size w w' ∧ w'.cell? ⟨b, o, none⟩ = some (.int .u8 x)
theorem NS.mk' {w w' : World} {b o : Nat} {x : Int} (hB : b < w.heap.size) (c0 : w.cell? ⟨b, o, none⟩ = some (.int .u8 x)) (h : Below w.heap.size w w') : NS w b o x w' :=
  ⟨h, (h.cell (p := ⟨b, o, none⟩) hB).trans c0⟩
theorem NS.alloc {w w' : World} {b o : Nat} {x : Int} (hB : b < w.heap.size) (c0 : w.cell? ⟨b, o, none⟩ = some (.int .u8 x)) (h : NS w b o x w') (u : Obj) : NS w b o x (w'.alloc u) := .mk' hB c0 (h.1.alloc h.1.size u)
theorem NS.kept {w w' w'' : World} {b o : Nat} {x : Int} (hB : b < w.heap.size) (c0 : w.cell? ⟨b, o, none⟩ = some (.int .u8 x)) (h : NS w b o x w') (hb : Below w'.heap.size w' w'') : NS w b o x w'' := .mk' hB c0 (Below.after h.1 hb h.1.size)

set_option maxRecDepth 100000 in
set_option maxHeartbeats 4000000 in
theorem next0 (x : Int) (hx : Byte x) (h : ldN x = 0 ∧ ldB x = 0 ∧ ldM x = 0) (b o n cap : Nat) (h0 : 0 < n) (w : World) (c0 : w.cell? ⟨b, o, none⟩ = some (.int .u8 x)) (hg : Gl w) :
    Calls Tryd.prog 93 #[.slice (some ⟨b, o, none⟩) n cap] w fun e w' => e = .returned (.tuple #[.int .i64 0, .int .i64 0]) ∧ Below w.heap.size w w' := by
  have hs := fun w' (hw : Below w.heap.size w w') => sized_any x hx.1 hx.2 w' (hg.below hw hg.lt hw.size)
  rw [h.1, h.2.1, h.2.2] at hs
  have hs := Lib.hid hs
  have q1 := eql136
  obtain ⟨a0, a1, lt⟩ := hg
  have lt' : w.heap.size ≠ 0 := by omega
  go_enter Tryd.func93, Tryd.ntmps93
  go_wp2_with (go_at_call 97; refine (hs.out _ (Below.refl _ _)).mono ?_; rintro e w1 ⟨rfl, hb1⟩; obtain ⟨hc1, hf1⟩ := bcell hb1; have z1 := hb1.size; have y1 : 0 < w1.heap.size := by omega)
  exact bodyPost_ret (v := .tuple #[.int .i64 0, .int .i64 0]) (by simp [results, Tryd.results93, go_sem]) rfl ⟨rfl, Below.alloc hb1 (by omega) _⟩

set_option maxRecDepth 100000 in
set_option maxHeartbeats 4000000 in
theorem fit1 (x : Int) (hx : Byte x) (h : ldN x = 1 ∧ ldB x = 7 ∧ ldM x = 0) (b o n cap : Nat) (L : List Int) (h1 : L.length = 0) (hN : 1 ≤ n) (hcap : n ≤ cap) (w : World) (c0 : w.cell? ⟨b, o, none⟩ = some (.int .u8 x)) (hL : ∀ y ∈ L, Byte y) (hb : Bs w b (o + 1) L) (hB : b < w.heap.size) (hg : Gl w) (r : Int × Int) (hr : finP 1 (contP (x % 128) L) = r) :
    Calls Tryd.prog 93 #[.slice (some ⟨b, o, none⟩) n cap] w fun e w' => e = .returned (.tuple #[.int .i64 r.1, .int .i64 r.2]) ∧ Below w.heap.size w w' := by
  have hs := fun w' (hw : Below w.heap.size w w') => sized_any x hx.1 hx.2 w' (hg.below hw hg.lt hw.size)
  rw [h.1, h.2.1, h.2.2] at hs
  have hs := Lib.hid hs
  have q1 := eql136
  obtain ⟨a0, a1, lt⟩ := hg
  have lt' : w.heap.size ≠ 0 := by omega
  have h1' : (1 : Int) ≤ n := by omega
  have h2' : (n : Int) ≤ cap := by omega
  have hm : bits .and .i64 (wrap64 x) 127 = x % 128 := by
    have := and_mask (wrap64 x) 7 (by omega)
    simp at this
    rw [this]
    unfold wrap64
    omega
  obtain rfl : L = [] := List.eq_nil_of_length_eq_zero h1
  simp only [contP, finP] at hr
  generalize x % 128 = q at *
  have hsz := Lib.hid hr
  clear hr
  go_enter Tryd.func93, Tryd.ntmps93
  go_wp2_with (go_at_call 97; refine (hs.out _ (Below.refl _ _)).mono ?_; rintro e w1 ⟨rfl, hb1⟩; obtain ⟨hc1, hf1⟩ := bcell hb1; have z1 := hb1.size; (have y1 : 0 < w1.heap.size := by omega); (have yb : b < w1.heap.size := by omega))
  go_quiet (fail)
  go_wp2_with fail
  · go_loopw [38, 6] (fun i p wr => i = .int .i64 0 ∧ p = .int .i64 q ∧ Below w.heap.size w wr) (fun _ _ _ => 0)
    case atStart => exact ⟨rfl, rfl, below_drewN (Below.alloc hb1 (by omega) _) _⟩
    case round =>
      obtain ⟨rfl, rfl, hbw⟩ := hrel
      have z2 := hbw.size
      go_wp2_with (go_at_call 98; refine (size_any _ _).mono ?_; rintro e w2 ⟨rfl, hb2⟩)
      · rename_i hz
        have hz' : sz q ≠ 1 := by simpa using hz
        have e := hsz.out
        rw [if_neg hz'] at e
        subst e
        exact bodyPost_ret (v := .tuple #[.int .i64 0, .int .i64 0]) (by simp [results, Tryd.results93, go_sem]) rfl ⟨rfl, Below.after hbw hb2 (by omega)⟩
      · rename_i hz
        have hz' : sz q = 1 := by simpa using hz
        have e := hsz.out
        rw [if_pos hz'] at e
        subst e
        exact bodyPost_ret (v := .tuple #[.int .i64 q, .int .i64 1]) (by simp [results, Tryd.results93, go_sem]) rfl ⟨rfl, Below.after hbw hb2 (by omega)⟩
  · go_loopw [38, 6] (fun i p wr => i = .int .i64 0 ∧ p = .int .i64 q ∧ Below w.heap.size w wr) (fun _ _ _ => 0)
    case atStart => exact ⟨rfl, rfl, below_drewN (Below.alloc hb1 (by omega) _) _⟩
    case round =>
      obtain ⟨rfl, rfl, hbw⟩ := hrel
      have z2 := hbw.size
      go_wp2_with (go_at_call 98; refine (size_any _ _).mono ?_; rintro e w2 ⟨rfl, hb2⟩)
      · rename_i hz
        have hz' : sz q ≠ 1 := by simpa using hz
        have e := hsz.out
        rw [if_neg hz'] at e
        subst e
        exact bodyPost_ret (v := .tuple #[.int .i64 0, .int .i64 0]) (by simp [results, Tryd.results93, go_sem]) rfl ⟨rfl, Below.after hbw hb2 (by omega)⟩
      · rename_i hz
        have hz' : sz q = 1 := by simpa using hz
        have e := hsz.out
        rw [if_pos hz'] at e
        subst e
        exact bodyPost_ret (v := .tuple #[.int .i64 q, .int .i64 1]) (by simp [results, Tryd.results93, go_sem]) rfl ⟨rfl, Below.after hbw hb2 (by omega)⟩

set_option maxRecDepth 100000 in
set_option maxHeartbeats 4000000 in
theorem short2 (x : Int) (hx : Byte x) (h : ldN x = 2 ∧ ldB x = 5 ∧ ldM x = 192) (b o n cap : Nat) (h0 : 0 < n) (h1 : n < 2) (w : World) (c0 : w.cell? ⟨b, o, none⟩ = some (.int .u8 x)) (hg : Gl w) :
    Calls Tryd.prog 93 #[.slice (some ⟨b, o, none⟩) n cap] w fun e w' => e = .returned (.tuple #[.int .i64 0, .int .i64 0]) ∧ Below w.heap.size w w' := by
  have hs := fun w' (hw : Below w.heap.size w w') => sized_any x hx.1 hx.2 w' (hg.below hw hg.lt hw.size)
  rw [h.1, h.2.1, h.2.2] at hs
  have hs := Lib.hid hs
  have q1 := eql136
  obtain ⟨a0, a1, lt⟩ := hg
  have lt' : w.heap.size ≠ 0 := by omega
  have h1' : (n : Int) < 2 := by omega
  go_enter Tryd.func93, Tryd.ntmps93
  go_wp2_with (go_at_call 97; refine (hs.out _ (Below.refl _ _)).mono ?_; rintro e w1 ⟨rfl, hb1⟩; obtain ⟨hc1, hf1⟩ := bcell hb1; have z1 := hb1.size; have y1 : 0 < w1.heap.size := by omega)
  exact bodyPost_ret (v := .tuple #[.int .i64 0, .int .i64 0]) (by simp [results, Tryd.results93, go_sem]) rfl ⟨rfl, Below.alloc hb1 (by omega) _⟩

set_option maxRecDepth 100000 in
set_option maxHeartbeats 4000000 in
theorem fit2 (x : Int) (hx : Byte x) (h : ldN x = 2 ∧ ldB x = 5 ∧ ldM x = 192) (b o n cap : Nat) (L : List Int) (h1 : L.length = 1) (hN : 2 ≤ n) (hcap : n ≤ cap) (w : World) (c0 : w.cell? ⟨b, o, none⟩ = some (.int .u8 x)) (hL : ∀ y ∈ L, Byte y) (hb : Bs w b (o + 1) L) (hB : b < w.heap.size) (hg : Gl w) (r : Int × Int) (hr : finP 2 (contP (x % 32) L) = r) :
    Calls Tryd.prog 93 #[.slice (some ⟨b, o, none⟩) n cap] w fun e w' => e = .returned (.tuple #[.int .i64 r.1, .int .i64 r.2]) ∧ Below w.heap.size w w' := by
  have hs := fun w' (hw : Below w.heap.size w w') => sized_any x hx.1 hx.2 w' (hg.below hw hg.lt hw.size)
  rw [h.1, h.2.1, h.2.2] at hs
  have hs := Lib.hid hs
  have q1 := eql136
  obtain ⟨a0, a1, lt⟩ := hg
  have lt' : w.heap.size ≠ 0 := by omega
  have h1' : (2 : Int) ≤ n := by omega
  have h2' : (n : Int) ≤ cap := by omega
  have hm : bits .and .i64 (wrap64 x) 31 = x % 32 := by
    have := and_mask (wrap64 x) 5 (by omega)
    simp at this
    rw [this]
    unfold wrap64
    omega
  have hr' := Lib.hid hr
  clear hr
  go_enter Tryd.func93, Tryd.ntmps93
  go_wp2_with (go_at_call 97; refine (hs.out _ (Below.refl _ _)).mono ?_; rintro e w1 ⟨rfl, hb1⟩; obtain ⟨hc1, hf1⟩ := bcell hb1; have z1 := hb1.size; (have y1 : 0 < w1.heap.size := by omega); (have yb : b < w1.heap.size := by omega))
  go_quiet (fail)
  go_wp2
  go_loopw [38, 6] (fun i p wr => ∃ (k : Nat) (q : Int), i = .int .i64 (k : Int) ∧ p = .int .i64 q ∧ k ≤ 1 ∧ contP (x % 32) L = contP q (L.drop k) ∧ Small q k ∧ Below w.heap.size w wr) (fun i _ _ => 1 - (intOf i).toNat)
  case atStart => exact ⟨0, x % 32, rfl, rfl, by omega, rfl, ⟨by omega, by omega, by omega, by omega, by omega, by omega⟩, below_drewN (Below.alloc hb1 (by omega) _) _⟩
  case round =>
    obtain ⟨k, q, rfl, rfl, hk, hc, hq, hbw⟩ := hrel
    have z2 := hbw.size
    have hc' := Lib.hid hc
    clear hc
    by_cases hlt : k < 1
    · have hlt' : k < L.length := by omega
      have d0 := (hbw.cell (p := ⟨b, o + 1 + k, none⟩) hB).trans (hb k hlt')
      have hy := hL L[k] (List.getElem_mem hlt')
      have hd' := Lib.hid (show L.drop k = L[k] :: L.drop (k + 1) from List.drop_eq_getElem_cons hlt')
      generalize L[k] = y at *
      obtain ⟨q0, q1', q2, q3, q4, q5⟩ := hq
      obtain ⟨y0, y1'⟩ := hy
      have hor' := Lib.hid (or_low q (y % 64) q0 q5 (by omega) (by omega))
      go_wp2
      · rename_i hz
        have hz' : y / 64 ≠ 2 := by simpa using hz
        have e := hr'.out
        rw [hc'.out, hd'.out] at e
        simp only [contP, if_neg hz', finP] at e
        subst e
        exact bodyPost_ret (v := .tuple #[.int .i64 0, .int .i64 0]) (by simp [results, Tryd.results93, go_sem]) rfl ⟨rfl, hbw⟩
      · rename_i hz
        have hz' : y / 64 = 2 := by simpa using hz
        refine ⟨⟨k + 1, q * 64 + y % 64, by simp, by rw [hor'.out], by omega, ?_, ⟨by omega, by omega, by omega, by omega, by omega, by omega⟩, hbw⟩, by simp [intOf]; omega⟩
        rw [hc'.out, hd'.out]
        simp only [contP, if_pos hz']
    · have hkn : k = 1 := by omega
      subst hkn
      have e := hr'.out
      rw [hc'.out, List.drop_of_length_le (by omega)] at e
      simp only [contP, finP] at e
      have hsz := Lib.hid e
      clear e
      go_wp2_with (go_at_call 98; refine (size_any _ _).mono ?_; rintro e w2 ⟨rfl, hb2⟩)
      · rename_i hz
        have hz' : sz q ≠ 2 := by simpa using hz
        have e := hsz.out
        rw [if_neg hz'] at e
        subst e
        exact bodyPost_ret (v := .tuple #[.int .i64 0, .int .i64 0]) (by simp [results, Tryd.results93, go_sem]) rfl ⟨rfl, Below.after hbw hb2 (by omega)⟩
      · rename_i hz
        have hz' : sz q = 2 := by simpa using hz
        have e := hsz.out
        rw [if_pos hz'] at e
        subst e
        exact bodyPost_ret (v := .tuple #[.int .i64 q, .int .i64 2]) (by simp [results, Tryd.results93, go_sem]) rfl ⟨rfl, Below.after hbw hb2 (by omega)⟩

set_option maxRecDepth 100000 in
set_option maxHeartbeats 4000000 in
theorem short3 (x : Int) (hx : Byte x) (h : ldN x = 3 ∧ ldB x = 4 ∧ ldM x = 224) (b o n cap : Nat) (h0 : 0 < n) (h1 : n < 3) (w : World) (c0 : w.cell? ⟨b, o, none⟩ = some (.int .u8 x)) (hg : Gl w) :
    Calls Tryd.prog 93 #[.slice (some ⟨b, o, none⟩) n cap] w fun e w' => e = .returned (.tuple #[.int .i64 0, .int .i64 0]) ∧ Below w.heap.size w w' := by
  have hs := fun w' (hw : Below w.heap.size w w') => sized_any x hx.1 hx.2 w' (hg.below hw hg.lt hw.size)
  rw [h.1, h.2.1, h.2.2] at hs
  have hs := Lib.hid hs
  have q1 := eql136
  obtain ⟨a0, a1, lt⟩ := hg
  have lt' : w.heap.size ≠ 0 := by omega
  have h1' : (n : Int) < 3 := by omega
  go_enter Tryd.func93, Tryd.ntmps93
  go_wp2_with (go_at_call 97; refine (hs.out _ (Below.refl _ _)).mono ?_; rintro e w1 ⟨rfl, hb1⟩; obtain ⟨hc1, hf1⟩ := bcell hb1; have z1 := hb1.size; have y1 : 0 < w1.heap.size := by omega)
  exact bodyPost_ret (v := .tuple #[.int .i64 0, .int .i64 0]) (by simp [results, Tryd.results93, go_sem]) rfl ⟨rfl, Below.alloc hb1 (by omega) _⟩

set_option maxRecDepth 100000 in
set_option maxHeartbeats 4000000 in
theorem fit3 (x : Int) (hx : Byte x) (h : ldN x = 3 ∧ ldB x = 4 ∧ ldM x = 224) (b o n cap : Nat) (L : List Int) (h1 : L.length = 2) (hN : 3 ≤ n) (hcap : n ≤ cap) (w : World) (c0 : w.cell? ⟨b, o, none⟩ = some (.int .u8 x)) (hL : ∀ y ∈ L, Byte y) (hb : Bs w b (o + 1) L) (hB : b < w.heap.size) (hg : Gl w) (r : Int × Int) (hr : finP 3 (contP (x % 16) L) = r) :
    Calls Tryd.prog 93 #[.slice (some ⟨b, o, none⟩) n cap] w fun e w' => e = .returned (.tuple #[.int .i64 r.1, .int .i64 r.2]) ∧ Below w.heap.size w w' := by
  have hs := fun w' (hw : Below w.heap.size w w') => sized_any x hx.1 hx.2 w' (hg.below hw hg.lt hw.size)
  rw [h.1, h.2.1, h.2.2] at hs
  have hs := Lib.hid hs
  have q1 := eql136
  obtain ⟨a0, a1, lt⟩ := hg
  have lt' : w.heap.size ≠ 0 := by omega
  have h1' : (3 : Int) ≤ n := by omega
  have h2' : (n : Int) ≤ cap := by omega
  have hm : bits .and .i64 (wrap64 x) 15 = x % 16 := by
    have := and_mask (wrap64 x) 4 (by omega)
    simp at this
    rw [this]
    unfold wrap64
    omega
  have hr' := Lib.hid hr
  clear hr
  go_enter Tryd.func93, Tryd.ntmps93
  go_wp2_with (go_at_call 97; refine (hs.out _ (Below.refl _ _)).mono ?_; rintro e w1 ⟨rfl, hb1⟩; obtain ⟨hc1, hf1⟩ := bcell hb1; have z1 := hb1.size; (have y1 : 0 < w1.heap.size := by omega); (have yb : b < w1.heap.size := by omega))
  go_quiet (fail)
  go_wp2
  go_loopw [38, 6] (fun i p wr => ∃ (k : Nat) (q : Int), i = .int .i64 (k : Int) ∧ p = .int .i64 q ∧ k ≤ 2 ∧ contP (x % 16) L = contP q (L.drop k) ∧ Small q k ∧ Below w.heap.size w wr) (fun i _ _ => 2 - (intOf i).toNat)
  case atStart => exact ⟨0, x % 16, rfl, rfl, by omega, rfl, ⟨by omega, by omega, by omega, by omega, by omega, by omega⟩, below_drewN (Below.alloc hb1 (by omega) _) _⟩
  case round =>
    obtain ⟨k, q, rfl, rfl, hk, hc, hq, hbw⟩ := hrel
    have z2 := hbw.size
    have hc' := Lib.hid hc
    clear hc
    by_cases hlt : k < 2
    · have hlt' : k < L.length := by omega
      have d0 := (hbw.cell (p := ⟨b, o + 1 + k, none⟩) hB).trans (hb k hlt')
      have hy := hL L[k] (List.getElem_mem hlt')
      have hd' := Lib.hid (show L.drop k = L[k] :: L.drop (k + 1) from List.drop_eq_getElem_cons hlt')
      generalize L[k] = y at *
      obtain ⟨q0, q1', q2, q3, q4, q5⟩ := hq
      obtain ⟨y0, y1'⟩ := hy
      have hor' := Lib.hid (or_low q (y % 64) q0 q5 (by omega) (by omega))
      go_wp2
      · rename_i hz
        have hz' : y / 64 ≠ 2 := by simpa using hz
        have e := hr'.out
        rw [hc'.out, hd'.out] at e
        simp only [contP, if_neg hz', finP] at e
        subst e
        exact bodyPost_ret (v := .tuple #[.int .i64 0, .int .i64 0]) (by simp [results, Tryd.results93, go_sem]) rfl ⟨rfl, hbw⟩
      · rename_i hz
        have hz' : y / 64 = 2 := by simpa using hz
        refine ⟨⟨k + 1, q * 64 + y % 64, by simp, by rw [hor'.out], by omega, ?_, ⟨by omega, by omega, by omega, by omega, by omega, by omega⟩, hbw⟩, by simp [intOf]; omega⟩
        rw [hc'.out, hd'.out]
        simp only [contP, if_pos hz']
    · have hkn : k = 2 := by omega
      subst hkn
      have e := hr'.out
      rw [hc'.out, List.drop_of_length_le (by omega)] at e
      simp only [contP, finP] at e
      have hsz := Lib.hid e
      clear e
      go_wp2_with (go_at_call 98; refine (size_any _ _).mono ?_; rintro e w2 ⟨rfl, hb2⟩)
      · rename_i hz
        have hz' : sz q ≠ 3 := by simpa using hz
        have e := hsz.out
        rw [if_neg hz'] at e
        subst e
        exact bodyPost_ret (v := .tuple #[.int .i64 0, .int .i64 0]) (by simp [results, Tryd.results93, go_sem]) rfl ⟨rfl, Below.after hbw hb2 (by omega)⟩
      · rename_i hz
        have hz' : sz q = 3 := by simpa using hz
        have e := hsz.out
        rw [if_pos hz'] at e
        subst e
        exact bodyPost_ret (v := .tuple #[.int .i64 q, .int .i64 3]) (by simp [results, Tryd.results93, go_sem]) rfl ⟨rfl, Below.after hbw hb2 (by omega)⟩

set_option maxRecDepth 100000 in
set_option maxHeartbeats 4000000 in
theorem short4 (x : Int) (hx : Byte x) (h : ldN x = 4 ∧ ldB x = 3 ∧ ldM x = 240) (b o n cap : Nat) (h0 : 0 < n) (h1 : n < 4) (w : World) (c0 : w.cell? ⟨b, o, none⟩ = some (.int .u8 x)) (hg : Gl w) :
    Calls Tryd.prog 93 #[.slice (some ⟨b, o, none⟩) n cap] w fun e w' => e = .returned (.tuple #[.int .i64 0, .int .i64 0]) ∧ Below w.heap.size w w' := by
  have hs := fun w' (hw : Below w.heap.size w w') => sized_any x hx.1 hx.2 w' (hg.below hw hg.lt hw.size)
  rw [h.1, h.2.1, h.2.2] at hs
  have hs := Lib.hid hs
  have q1 := eql136
  obtain ⟨a0, a1, lt⟩ := hg
  have lt' : w.heap.size ≠ 0 := by omega
  have h1' : (n : Int) < 4 := by omega
  go_enter Tryd.func93, Tryd.ntmps93
  go_wp2_with (go_at_call 97; refine (hs.out _ (Below.refl _ _)).mono ?_; rintro e w1 ⟨rfl, hb1⟩; obtain ⟨hc1, hf1⟩ := bcell hb1; have z1 := hb1.size; have y1 : 0 < w1.heap.size := by omega)
  exact bodyPost_ret (v := .tuple #[.int .i64 0, .int .i64 0]) (by simp [results, Tryd.results93, go_sem]) rfl ⟨rfl, Below.alloc hb1 (by omega) _⟩

set_option maxRecDepth 100000 in
set_option maxHeartbeats 4000000 in
theorem fit4 (x : Int) (hx : Byte x) (h : ldN x = 4 ∧ ldB x = 3 ∧ ldM x = 240) (b o n cap : Nat) (L : List Int) (h1 : L.length = 3) (hN : 4 ≤ n) (hcap : n ≤ cap) (w : World) (c0 : w.cell? ⟨b, o, none⟩ = some (.int .u8 x)) (hL : ∀ y ∈ L, Byte y) (hb : Bs w b (o + 1) L) (hB : b < w.heap.size) (hg : Gl w) (r : Int × Int) (hr : finP 4 (contP (x % 8) L) = r) :
    Calls Tryd.prog 93 #[.slice (some ⟨b, o, none⟩) n cap] w fun e w' => e = .returned (.tuple #[.int .i64 r.1, .int .i64 r.2]) ∧ Below w.heap.size w w' := by
  have hs := fun w' (hw : Below w.heap.size w w') => sized_any x hx.1 hx.2 w' (hg.below hw hg.lt hw.size)
  rw [h.1, h.2.1, h.2.2] at hs
  have hs := Lib.hid hs
  have q1 := eql136
  obtain ⟨a0, a1, lt⟩ := hg
  have lt' : w.heap.size ≠ 0 := by omega
  have h1' : (4 : Int) ≤ n := by omega
  have h2' : (n : Int) ≤ cap := by omega
  have hm : bits .and .i64 (wrap64 x) 7 = x % 8 := by
    have := and_mask (wrap64 x) 3 (by omega)
    simp at this
    rw [this]
    unfold wrap64
    omega
  have hr' := Lib.hid hr
  clear hr
  go_enter Tryd.func93, Tryd.ntmps93
  go_wp2_with (go_at_call 97; refine (hs.out _ (Below.refl _ _)).mono ?_; rintro e w1 ⟨rfl, hb1⟩; obtain ⟨hc1, hf1⟩ := bcell hb1; have z1 := hb1.size; (have y1 : 0 < w1.heap.size := by omega); (have yb : b < w1.heap.size := by omega))
  go_quiet (fail)
  go_wp2
  go_loopw [38, 6] (fun i p wr => ∃ (k : Nat) (q : Int), i = .int .i64 (k : Int) ∧ p = .int .i64 q ∧ k ≤ 3 ∧ contP (x % 8) L = contP q (L.drop k) ∧ Small q k ∧ Below w.heap.size w wr) (fun i _ _ => 3 - (intOf i).toNat)
  case atStart => exact ⟨0, x % 8, rfl, rfl, by omega, rfl, ⟨by omega, by omega, by omega, by omega, by omega, by omega⟩, below_drewN (Below.alloc hb1 (by omega) _) _⟩
  case round =>
    obtain ⟨k, q, rfl, rfl, hk, hc, hq, hbw⟩ := hrel
    have z2 := hbw.size
    have hc' := Lib.hid hc
    clear hc
    by_cases hlt : k < 3
    · have hlt' : k < L.length := by omega
      have d0 := (hbw.cell (p := ⟨b, o + 1 + k, none⟩) hB).trans (hb k hlt')
      have hy := hL L[k] (List.getElem_mem hlt')
      have hd' := Lib.hid (show L.drop k = L[k] :: L.drop (k + 1) from List.drop_eq_getElem_cons hlt')
      generalize L[k] = y at *
      obtain ⟨q0, q1', q2, q3, q4, q5⟩ := hq
      obtain ⟨y0, y1'⟩ := hy
      have hor' := Lib.hid (or_low q (y % 64) q0 q5 (by omega) (by omega))
      go_wp2
      · rename_i hz
        have hz' : y / 64 ≠ 2 := by simpa using hz
        have e := hr'.out
        rw [hc'.out, hd'.out] at e
        simp only [contP, if_neg hz', finP] at e
        subst e
        exact bodyPost_ret (v := .tuple #[.int .i64 0, .int .i64 0]) (by simp [results, Tryd.results93, go_sem]) rfl ⟨rfl, hbw⟩
      · rename_i hz
        have hz' : y / 64 = 2 := by simpa using hz
        refine ⟨⟨k + 1, q * 64 + y % 64, by simp, by rw [hor'.out], by omega, ?_, ⟨by omega, by omega, by omega, by omega, by omega, by omega⟩, hbw⟩, by simp [intOf]; omega⟩
        rw [hc'.out, hd'.out]
        simp only [contP, if_pos hz']
    · have hkn : k = 3 := by omega
      subst hkn
      have e := hr'.out
      rw [hc'.out, List.drop_of_length_le (by omega)] at e
      simp only [contP, finP] at e
      have hsz := Lib.hid e
      clear e
      go_wp2_with (go_at_call 98; refine (size_any _ _).mono ?_; rintro e w2 ⟨rfl, hb2⟩)
      · rename_i hz
        have hz' : sz q ≠ 4 := by simpa using hz
        have e := hsz.out
        rw [if_neg hz'] at e
        subst e
        exact bodyPost_ret (v := .tuple #[.int .i64 0, .int .i64 0]) (by simp [results, Tryd.results93, go_sem]) rfl ⟨rfl, Below.after hbw hb2 (by omega)⟩
      · rename_i hz
        have hz' : sz q = 4 := by simpa using hz
        have e := hsz.out
        rw [if_pos hz'] at e
        subst e
        exact bodyPost_ret (v := .tuple #[.int .i64 q, .int .i64 4]) (by simp [results, Tryd.results93, go_sem]) rfl ⟨rfl, Below.after hbw hb2 (by omega)⟩

end Go.Proofs.YtmleipmilmeclaaDoor
