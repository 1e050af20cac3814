/- Plain: the reference's code points are the program's. -/
import Derived.Test.YtmleipmilmeclaaDoorXUc
namespace Go.Proofs.YtmleipmilmeclaaDoor

/-- The reference's words: is a number a code point; its bytes; the number that the first n bytes make. -/
def isCp (p : Int) : Bool := decide (p ≥ 0 ∧ p ≤ 1114111 ∧ ¬(p ≥ 55296 ∧ p ≤ 57343))
def bytesCp (p : Int) : List Int :=
  if p < 128 then [p] else if p < 2048 then [192 + p / 64, 128 + p % 64] else if p < 65536 then [224 + p / 4096, 128 + p / 64 % 64, 128 + p % 64] else [240 + p / 262144, 128 + p / 4096 % 64, 128 + p / 64 % 64, 128 + p % 64]
def foldCp (p : Int) : List Int → Int
  | [] => p
  | c :: r => foldCp (p * 64 + c % 64) r
def modB (n : Nat) : Int := if n = 2 then 32 else if n = 3 then 16 else if n = 4 then 8 else 1
def cpOf (L : List Int) (n : Nat) : Int := match L with | [] => 0 | b :: r => foldCp (if n > 1 then b % modB n else b) (r.take (n - 1))
/-- do the first n bytes make a code point whose bytes they are? -/
def hitCp (L : List Int) (n : Nat) : Bool := isCp (cpOf L n) && decide ((bytesCp (cpOf L n)).length = n) && (bytesCp (cpOf L n)).isPrefixOf L
def beginF (L : List Int) : Nat → Nat → Int × Int
  | 0, _ => (0, 0)
  | f + 1, n => if n ≤ 4 ∧ n ≤ L.length then (if hitCp L n then (cpOf L n, n) else beginF L f (n + 1)) else (0, 0)

theorem hit1 (b : Int) (r : List Int) (hb : Byte b) : hitCp (b :: r) 1 = decide (b < 128) := by
  unfold Byte at hb
  by_cases h : b < 128
  · have : isCp b = true := by simp [isCp]; omega
    simp [hitCp, cpOf, foldCp, this, bytesCp, h]
  · have : ¬(bytesCp b).length = 1 := by
      unfold bytesCp; (repeat' split) <;> simp_all
    simp [hitCp, cpOf, foldCp, this, h]
theorem hit2 (b c : Int) (r : List Int) (hb : Byte b) (_hc : Byte c) : hitCp (b :: c :: r) 2 = decide (192 ≤ b ∧ b ≤ 223 ∧ c / 64 = 2 ∧ (b % 32) * 64 + c % 64 ≥ 128) := by
  unfold Byte at hb
  have e : cpOf (b :: c :: r) 2 = (b % 32) * 64 + c % 64 := by simp [cpOf, foldCp, modB]
  unfold hitCp
  rw [e]
  have hi : isCp ((b % 32) * 64 + c % 64) = true := by simp [isCp]; omega
  rw [hi]
  by_cases h : (b % 32) * 64 + c % 64 ≥ 128
  · have e2 : bytesCp ((b % 32) * 64 + c % 64) = [192 + ((b % 32) * 64 + c % 64) / 64, 128 + ((b % 32) * 64 + c % 64) % 64] := by
      unfold bytesCp; rw [if_neg (by omega), if_pos (by omega)]
    rw [e2, Bool.eq_iff_iff]
    simp
    omega
  · have e2 : bytesCp ((b % 32) * 64 + c % 64) = [(b % 32) * 64 + c % 64] := by
      unfold bytesCp; rw [if_pos (by omega)]
    rw [e2]
    simp
    omega
theorem hit3 (b c d : Int) (r : List Int) (hb : Byte b) (hc : Byte c) (_hd : Byte d) : hitCp (b :: c :: d :: r) 3 = decide (224 ≤ b ∧ b ≤ 239 ∧ c / 64 = 2 ∧ d / 64 = 2 ∧ sz (((b % 16) * 64 + c % 64) * 64 + d % 64) = 3) := by
  unfold Byte at hb hc
  have e : cpOf (b :: c :: d :: r) 3 = ((b % 16) * 64 + c % 64) * 64 + d % 64 := by simp [cpOf, foldCp, modB]
  unfold hitCp
  rw [e]
  by_cases h3 : sz (((b % 16) * 64 + c % 64) * 64 + d % 64) = 3
  · have hp : 2048 ≤ ((b % 16) * 64 + c % 64) * 64 + d % 64 ∧ ((b % 16) * 64 + c % 64) * 64 + d % 64 < 65536 := by
      unfold sz at h3; (repeat' split at h3) <;> omega
    have hi : isCp (((b % 16) * 64 + c % 64) * 64 + d % 64) = true := by
      unfold sz at h3; (repeat' split at h3) <;> first | omega | (simp [isCp]; omega)
    have e2 : bytesCp (((b % 16) * 64 + c % 64) * 64 + d % 64) = [224 + (((b % 16) * 64 + c % 64) * 64 + d % 64) / 4096, 128 + (((b % 16) * 64 + c % 64) * 64 + d % 64) / 64 % 64, 128 + (((b % 16) * 64 + c % 64) * 64 + d % 64) % 64] := by
      unfold bytesCp; rw [if_neg (by omega), if_neg (by omega), if_pos (by omega)]
    rw [hi, e2, Bool.eq_iff_iff]
    simp [h3]
    omega
  · have hn : isCp (((b % 16) * 64 + c % 64) * 64 + d % 64) = false ∨ (bytesCp (((b % 16) * 64 + c % 64) * 64 + d % 64)).length ≠ 3 := by
      by_cases hs : (((b % 16) * 64 + c % 64) * 64 + d % 64) ≥ 55296 ∧ (((b % 16) * 64 + c % 64) * 64 + d % 64) ≤ 57343
      · left; simp [isCp]; omega
      · right
        have : (((b % 16) * 64 + c % 64) * 64 + d % 64) < 2048 := by
          unfold sz at h3; (repeat' split at h3) <;> omega
        unfold bytesCp
        by_cases hq : (((b % 16) * 64 + c % 64) * 64 + d % 64) < 128
        · rw [if_pos hq]; simp
        · rw [if_neg hq, if_pos this]; simp
    rcases hn with hn | hn <;> simp [hn, h3]
theorem hit4 (b c d e : Int) (r : List Int) (hb : Byte b) (hc : Byte c) (hd : Byte d) (_he : Byte e) : hitCp (b :: c :: d :: e :: r) 4 = decide (240 ≤ b ∧ b ≤ 247 ∧ c / 64 = 2 ∧ d / 64 = 2 ∧ e / 64 = 2 ∧ sz ((((b % 8) * 64 + c % 64) * 64 + d % 64) * 64 + e % 64) = 4) := by
  unfold Byte at hb hc hd
  have e0 : cpOf (b :: c :: d :: e :: r) 4 = (((b % 8) * 64 + c % 64) * 64 + d % 64) * 64 + e % 64 := by simp [cpOf, foldCp, modB]
  unfold hitCp
  rw [e0]
  by_cases h3 : sz ((((b % 8) * 64 + c % 64) * 64 + d % 64) * 64 + e % 64) = 4
  · have hp : 65536 ≤ (((b % 8) * 64 + c % 64) * 64 + d % 64) * 64 + e % 64 := by
      unfold sz at h3; (repeat' split at h3) <;> omega
    have hi : isCp ((((b % 8) * 64 + c % 64) * 64 + d % 64) * 64 + e % 64) = true := by
      unfold sz at h3; (repeat' split at h3) <;> first | omega | (simp [isCp]; omega)
    have e2 : bytesCp ((((b % 8) * 64 + c % 64) * 64 + d % 64) * 64 + e % 64) = [240 + ((((b % 8) * 64 + c % 64) * 64 + d % 64) * 64 + e % 64) / 262144, 128 + ((((b % 8) * 64 + c % 64) * 64 + d % 64) * 64 + e % 64) / 4096 % 64, 128 + ((((b % 8) * 64 + c % 64) * 64 + d % 64) * 64 + e % 64) / 64 % 64, 128 + ((((b % 8) * 64 + c % 64) * 64 + d % 64) * 64 + e % 64) % 64] := by
      unfold bytesCp; rw [if_neg (by omega), if_neg (by omega), if_neg (by omega)]
    rw [hi, e2, Bool.eq_iff_iff]
    simp [h3]
    omega
  · have hn : isCp ((((b % 8) * 64 + c % 64) * 64 + d % 64) * 64 + e % 64) = false ∨ (bytesCp ((((b % 8) * 64 + c % 64) * 64 + d % 64) * 64 + e % 64)).length ≠ 4 := by
      by_cases hs : ((((b % 8) * 64 + c % 64) * 64 + d % 64) * 64 + e % 64) > 1114111
      · left; simp [isCp]; omega
      · right
        have : ((((b % 8) * 64 + c % 64) * 64 + d % 64) * 64 + e % 64) < 65536 := by
          unfold sz at h3; (repeat' split at h3) <;> omega
        unfold bytesCp
        by_cases hq : ((((b % 8) * 64 + c % 64) * 64 + d % 64) * 64 + e % 64) < 128
        · rw [if_pos hq]; simp
        · rw [if_neg hq]
          by_cases hq2 : ((((b % 8) * 64 + c % 64) * 64 + d % 64) * 64 + e % 64) < 2048
          · rw [if_pos hq2]; simp
          · rw [if_neg hq2, if_pos this]; simp
    rcases hn with hn | hn <;> simp [hn, h3]

theorem ldB_cases (x : Int) : (ldN x = 0 ∧ ¬x < 128 ∧ ¬(192 ≤ x ∧ x ≤ 223) ∧ ¬(224 ≤ x ∧ x ≤ 239) ∧ ¬(240 ≤ x ∧ x ≤ 247)) ∨ (ldN x = 1 ∧ maskB x = x % 128 ∧ x < 128) ∨ (ldN x = 2 ∧ maskB x = x % 32 ∧ 192 ≤ x ∧ x ≤ 223) ∨ (ldN x = 3 ∧ maskB x = x % 16 ∧ 224 ≤ x ∧ x ≤ 239) ∨ (ldN x = 4 ∧ maskB x = x % 8 ∧ 240 ≤ x ∧ x ≤ 247) := by
  unfold ldN maskB
  (repeat' split) <;> omega

theorem sz1 {b : Int} (_h0 : 0 ≤ b) (_h : b < 128) : sz (b % 128) = 1 := by
  unfold sz; rw [if_neg (by omega), if_pos (by omega)]
theorem sz2 {p : Int} (h0 : 0 ≤ p) (h : p < 2048) : sz p = 2 ↔ p ≥ 128 := by
  unfold sz; rw [if_neg (by omega)]; (repeat' split) <;> omega

/-- the four tries, one by one -/
theorem begin4 (L : List Int) : beginF L 4 1 = if 1 ≤ L.length ∧ hitCp L 1 = true then (cpOf L 1, 1) else if 2 ≤ L.length ∧ hitCp L 2 = true then (cpOf L 2, 2) else if 3 ≤ L.length ∧ hitCp L 3 = true then (cpOf L 3, 3) else if 4 ≤ L.length ∧ hitCp L 4 = true then (cpOf L 4, 4) else (0, 0) := by
  simp only [beginF]
  by_cases l1 : 1 ≤ L.length
  · by_cases l2 : 2 ≤ L.length
    · by_cases l3 : 3 ≤ L.length
      · by_cases l4 : 4 ≤ L.length
        · simp [l1, l2, l3, l4]
        · simp [l1, l2, l3, l4]
      · simp [l1, l2, l3, show ¬4 ≤ L.length by omega]
    · simp [l1, l2, show ¬3 ≤ L.length by omega, show ¬4 ≤ L.length by omega]
  · simp [l1, show ¬2 ≤ L.length by omega, show ¬3 ≤ L.length by omega, show ¬4 ≤ L.length by omega]

theorem begin_next (L : List Int) (hL : ∀ y ∈ L, Byte y) : beginF L 4 1 = nextP L := by
  rw [begin4]
  match L, hL with
  | [], _ => simp [nextP]
  | b :: r, hL =>
    have hb := hL b (by simp)
    have hb' := hb
    unfold Byte at hb'
    rw [hit1 b r hb]
    rcases ldB_cases b with h | h | h | h | h
    · -- no mark
      have n2 : ∀ (_ : 2 ≤ (b :: r).length), hitCp (b :: r) 2 = false := fun hl => by
        match r, hL, hl with
        | c :: r, hL, _ => rw [hit2 b c r hb (hL c (by simp))]; simp; omega
      have n3 : ∀ (_ : 3 ≤ (b :: r).length), hitCp (b :: r) 3 = false := fun hl => by
        match r, hL, hl with
        | c :: d :: r, hL, _ => rw [hit3 b c d r hb (hL c (by simp)) (hL d (by simp))]; simp; omega
      have n4 : ∀ (_ : 4 ≤ (b :: r).length), hitCp (b :: r) 4 = false := fun hl => by
        match r, hL, hl with
        | c :: d :: e :: r, hL, _ => rw [hit4 b c d e r hb (hL c (by simp)) (hL d (by simp)) (hL e (by simp))]; simp; omega
      rw [if_neg (by simp; omega), if_neg (fun hh => by rw [n2 hh.1] at hh; simp at hh), if_neg (fun hh => by rw [n3 hh.1] at hh; simp at hh), if_neg (fun hh => by rw [n4 hh.1] at hh; simp at hh)]
      simp [nextP, h.1]
    · rw [if_pos ⟨by simp, by simp; omega⟩]
      simp only [nextP]
      rw [if_neg (by rw [h.1]; omega), h.1, h.2.1]
      have := sz1 hb'.1 h.2.2
      simp only [show ((1 : Int) - 1).toNat = 0 by decide, List.take_zero, contP, finP, this, if_true]
      simp [cpOf, foldCp]; omega
    · rw [if_neg (by simp; omega)]
      match r, hL with
      | [], _ => simp [nextP, h.1]
      | c :: r, hL =>
        have hc := hL c (by simp)
        have n3 : ∀ (_ : 3 ≤ (b :: c :: r).length), hitCp (b :: c :: r) 3 = false := fun hl => by
          match r, hL, hl with
          | d :: r, hL, _ => rw [hit3 b c d r hb (hL c (by simp)) (hL d (by simp))]; simp; omega
        have n4 : ∀ (_ : 4 ≤ (b :: c :: r).length), hitCp (b :: c :: r) 4 = false := fun hl => by
          match r, hL, hl with
          | d :: e :: r, hL, _ => rw [hit4 b c d e r hb (hL c (by simp)) (hL d (by simp)) (hL e (by simp))]; simp; omega
        have hn : nextP (b :: c :: r) = finP 2 (contP (b % 32) [c]) := by
          simp only [nextP]; rw [if_neg (by rw [h.1]; simp; omega), h.1, h.2.1]; rfl
        rw [hn, hit2 b c r hb hc]
        have hs := sz2 (p := (b % 32) * 64 + c % 64) (by omega) (by omega)
        by_cases hc2 : c / 64 = 2
        · simp only [contP, hc2, if_true, finP]
          by_cases hp : (b % 32) * 64 + c % 64 ≥ 128
          · rw [if_pos ⟨by simp, by simp; omega⟩, if_pos (hs.2 hp)]
            simp [cpOf, foldCp, modB]
          · rw [if_neg (by simp; omega), if_neg (fun hh => by rw [n3 hh.1] at hh; simp at hh), if_neg (fun hh => by rw [n4 hh.1] at hh; simp at hh), if_neg (fun hh => hp (hs.1 hh))]
        · simp only [contP, hc2, if_false, finP]
          rw [if_neg (by simp), if_neg (fun hh => by rw [n3 hh.1] at hh; simp at hh), if_neg (fun hh => by rw [n4 hh.1] at hh; simp at hh)]
    · rw [if_neg (by simp; omega)]
      match r, hL with
      | [], _ => simp [nextP, h.1]
      | [c], hL => 
        have hc := hL c (by simp)
        rw [hit2 b c [] hb hc]
        simp [nextP, h.1]; omega
      | c :: d :: r, hL =>
        have hc := hL c (by simp)
        have hd := hL d (by simp)
        have n4 : ∀ (_ : 4 ≤ (b :: c :: d :: r).length), hitCp (b :: c :: d :: r) 4 = false := fun hl => by
          match r, hL, hl with
          | e :: r, hL, _ => rw [hit4 b c d e r hb (hL c (by simp)) (hL d (by simp)) (hL e (by simp))]; simp; omega
        have hn : nextP (b :: c :: d :: r) = finP 3 (contP (b % 16) [c, d]) := by
          simp only [nextP]; rw [if_neg (by rw [h.1]; simp; omega), h.1, h.2.1]; rfl
        rw [hn, hit2 b c _ hb hc, hit3 b c d r hb hc hd, if_neg (by simp; omega)]
        by_cases hc2 : c / 64 = 2
        · by_cases hd2 : d / 64 = 2
          · simp only [contP, hc2, hd2, if_true, finP]
            by_cases hp : sz ((b % 16 * 64 + c % 64) * 64 + d % 64) = 3
            · rw [if_pos ⟨by simp, by simp [hp]; omega⟩, if_pos hp]
              simp [cpOf, foldCp, modB]
            · rw [if_neg (by simp [hp]), if_neg (fun hh => by rw [n4 hh.1] at hh; simp at hh), if_neg hp]
          · simp only [contP, hc2, hd2, if_true, if_false, finP]
            rw [if_neg (by simp), if_neg (fun hh => by rw [n4 hh.1] at hh; simp at hh)]
        · simp only [contP, hc2, if_false, finP]
          rw [if_neg (by simp), if_neg (fun hh => by rw [n4 hh.1] at hh; simp at hh)]
    · rw [if_neg (by simp; omega)]
      match r, hL with
      | [], _ => simp [nextP, h.1]
      | [c], hL =>
        rw [hit2 b c [] hb (hL c (by simp))]
        simp [nextP, h.1]; omega
      | [c, d], hL =>
        rw [hit2 b c _ hb (hL c (by simp)), hit3 b c d _ hb (hL c (by simp)) (hL d (by simp))]
        rw [if_neg (by simp; omega), if_neg (by simp; omega), if_neg (by simp)]
        simp [nextP, h.1]
      | c :: d :: e :: r, hL =>
        have hc := hL c (by simp)
        have hd := hL d (by simp)
        have he := hL e (by simp)
        have hn : nextP (b :: c :: d :: e :: r) = finP 4 (contP (b % 8) [c, d, e]) := by
          simp only [nextP]; rw [if_neg (by rw [h.1]; simp; omega), h.1, h.2.1]; rfl
        rw [hn, hit2 b c _ hb hc, hit3 b c d _ hb hc hd, hit4 b c d e r hb hc hd he, if_neg (by simp; omega), if_neg (by simp; omega)]
        by_cases hc2 : c / 64 = 2
        · by_cases hd2 : d / 64 = 2
          · by_cases he2 : e / 64 = 2
            · simp only [contP, hc2, hd2, he2, if_true, finP]
              by_cases hp : sz (((b % 8 * 64 + c % 64) * 64 + d % 64) * 64 + e % 64) = 4
              · rw [if_pos ⟨by simp, by simp [hp]; omega⟩, if_pos hp]
                simp [cpOf, foldCp, modB]
              · rw [if_neg (by simp [hp]), if_neg hp]
            · simp only [contP, hc2, hd2, he2, if_true, if_false, finP]
              rw [if_neg (by simp)]
          · simp only [contP, hc2, hd2, if_true, if_false, finP]
            rw [if_neg (by simp)]
        · simp only [contP, hc2, if_false, finP]
          rw [if_neg (by simp)]

end Go.Proofs.YtmleipmilmeclaaDoor

/- Walks: the reference's code points. -/
namespace Go.Proofs.YtmleipmilmeclaaDoor
open Go.RowKit
attribute [local go_sem ↓] Go.wp_at_zero Go.wp_at_succ

set_option maxHeartbeats 400000 in
theorem is_any (p : Int) (w : World) :
    Calls Tryd.prog 77 #[.int .i64 p] w fun e w' => e = .returned (.bool (isCp p)) ∧ Below w.heap.size w w' := by
  go_enter Tryd.func77, Tryd.ntmps77
  go_wp2
  all_goals go_ret
  all_goals (refine ⟨ret_bool ?_, by go_grown⟩)
  all_goals (unfold isCp; rw [Bool.eq_iff_iff]; simp; omega)

theorem Bs.of_blk {w : World} {g : Nat} {T : TypeId} {L : List Int} (h : Blk w g (L.map (Value.int .u8)).toArray T) : Bs w g 0 L := fun k hk => by
  rw [Nat.zero_add, h.cell k]
  simp [hk]

def BytesPost (w : World) (L : List Int) (e : Ending) (w' : World) : Prop :=
  ∃ g cap, e = .returned (.slice (some ⟨g, 0, none⟩) L.length cap) ∧ L.length ≤ cap ∧ Bs w' g 0 L ∧ g < w'.heap.size ∧ Below w.heap.size w w'
theorem BytesPost.mk' (w : World) (L : List Int) : BytesPost w L (.returned (.slice (some ⟨w.heap.size, 0, none⟩) L.length L.length)) (w.alloc (.cells (L.map (Value.int .u8)).toArray 5)) :=
  ⟨_, _, rfl, Nat.le_refl _, Bs.of_blk (Blk.new w _ _), by simp, by go_grown⟩

theorem tdivp {p d : Int} (h0 : 0 ≤ p) : p.tdiv d = p / d := Int.tdiv_eq_ediv_of_nonneg h0
theorem tmodp {p d : Int} (h0 : 0 ≤ p) : p.tmod d = p % d := Int.tmod_eq_emod_of_nonneg h0
theorem w64 {p : Int} (h0 : 0 ≤ p) (h1 : p ≤ 9223372036854775807) : wrap64 p = p := by unfold wrap64; omega

set_option maxHeartbeats 1000000 in
theorem bytes_any (p : Int) (h0 : 0 ≤ p) (h1 : p ≤ 1114111) (w : World) :
    Calls Tryd.prog 78 #[.int .i64 p] w (BytesPost w (bytesCp p)) := by
  have t1 : p.tdiv 64 = p / 64 := tdivp h0
  have t2 : wrap64 (p / 64) = p / 64 := w64 (by omega) (by omega)
  have t3 : (p / 64).tmod 64 = p / 64 % 64 := tmodp (by omega)
  have t4 : wrap64 (128 + p / 64 % 64) = 128 + p / 64 % 64 := w64 (by omega) (by omega)
  have t5 : (128 + p / 64 % 64) % 256 = 128 + p / 64 % 64 := by omega
  have r1 : p.tdiv 4096 = p / 4096 := tdivp h0
  have r2 : wrap64 (p / 4096) = p / 4096 := w64 (by omega) (by omega)
  have r3 : (p / 4096).tmod 64 = p / 4096 % 64 := tmodp (by omega)
  have r4 : wrap64 (128 + p / 4096 % 64) = 128 + p / 4096 % 64 := w64 (by omega) (by omega)
  have r5 : (128 + p / 4096 % 64) % 256 = 128 + p / 4096 % 64 := by omega
  have q1 : p.tdiv 262144 = p / 262144 := tdivp h0
  have q2 : wrap64 (p / 262144) = p / 262144 := w64 (by omega) (by omega)
  have q3 : wrap64 (240 + p / 262144) = 240 + p / 262144 := w64 (by omega) (by omega)
  have q5 : (240 + p / 262144) % 256 = 240 + p / 262144 := by omega
  have u3 : wrap64 (224 + p / 4096) = 224 + p / 4096 := w64 (by omega) (by omega)
  by_cases c1 : p < 128
  · have e : bytesCp p = [p] := by unfold bytesCp; rw [if_pos c1]
    rw [e]
    have m := BytesPost.mk' w [p]
    have hp : p % 256 = p := by omega
    go_enter Tryd.func78, Tryd.ntmps78
    go_wp2
    go_ret
    exact m
  · by_cases c2 : p < 2048
    · have e : bytesCp p = [192 + p / 64, 128 + p % 64] := by unfold bytesCp; rw [if_neg c1, if_pos c2]
      rw [e]
      have m := BytesPost.mk' w [192 + p / 64, 128 + p % 64]
      go_enter Tryd.func78, Tryd.ntmps78
      go_wp2
      go_ret
      exact m
    · by_cases c3 : p < 65536
      · have e : bytesCp p = [224 + p / 4096, 128 + p / 64 % 64, 128 + p % 64] := by unfold bytesCp; rw [if_neg c1, if_neg c2, if_pos c3]
        rw [e]
        have m := BytesPost.mk' w [224 + p / 4096, 128 + p / 64 % 64, 128 + p % 64]
        have u5 : (224 + p / 4096) % 256 = 224 + p / 4096 := by omega
        go_enter Tryd.func78, Tryd.ntmps78
        go_wp2
        go_ret
        exact m
      · have e : bytesCp p = [240 + p / 262144, 128 + p / 4096 % 64, 128 + p / 64 % 64, 128 + p % 64] := by unfold bytesCp; rw [if_neg c1, if_neg c2, if_neg c3]
        rw [e]
        have m := BytesPost.mk' w [240 + p / 262144, 128 + p / 4096 % 64, 128 + p / 64 % 64, 128 + p % 64]
        go_enter Tryd.func78, Tryd.ntmps78
        go_wp2
        go_ret
        exact m

end Go.Proofs.YtmleipmilmeclaaDoor
