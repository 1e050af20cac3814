/- Sorting pairs: swapRange. -/
import Derived.Test.YtmleipmilmeclaaDoorXSa
import Derived.Sort.WalkB2
import Derived.Sort.WalkB12
import Derived.Deep.LoopGhost
import Derived.Sort.LotA
import Derived.Sort.Lot0
namespace Go.Proofs.YtmleipmilmeclaaDoor
open Go.Shelf Go.RowKit Go.Lib Go.Sort
attribute [local go_sem ↓] Go.wp_at_zero Go.wp_at_succ

/-- n places from a on against n places from b on. -/
def swpRange : Array PV → Nat → Nat → Nat → Array PV
  | d, _, _, 0 => d
  | d, a, b, n + 1 => swpRange (swp d a b) (a + 1) (b + 1) n

abbrev fnC : Value := .func (.func 42) #[] #[]

/-- What the walks of the sort ask of a program. -/
structure SortEnv (P : Program) (k : Nat) : Prop where
  mixed : P.follows .mixedOrders = true
  f99 : P.funcs[99]? = some Tryd.f99
  f94 : P.funcs[94]? = some Tryd.f94
  f81 : P.funcs[81]? = some Tryd.f81
  t0 : P.underlying 0 = some (TypeDesc.tuple #[])
  a0 : ∀ w, (isAgg 0).run P w = .ok false w
  z0 : ∀ w, (Go.sizeOf 0).run P w = .ok 1 w
  v0 : ∀ w, (zeroValue 0).run P w = .ok (Value.tuple #[]) w
  t3 : P.underlying 3 = some (TypeDesc.int IntKind.i64)
  a3 : ∀ w, (isAgg 3).run P w = .ok false w
  z3 : ∀ w, (Go.sizeOf 3).run P w = .ok 1 w
  v3 : ∀ w, (zeroValue 3).run P w = .ok (Value.int IntKind.i64 0) w
  t4 : P.underlying 4 = some (TypeDesc.bool)
  a4 : ∀ w, (isAgg 4).run P w = .ok false w
  z4 : ∀ w, (Go.sizeOf 4).run P w = .ok 1 w
  v4 : ∀ w, (zeroValue 4).run P w = .ok (Value.bool false) w
  t48 : P.underlying 48 = some (TypeDesc.slice 56)
  a48 : ∀ w, (isAgg 48).run P w = .ok false w
  z48 : ∀ w, (Go.sizeOf 48).run P w = .ok 1 w
  v48 : ∀ w, (zeroValue 48).run P w = .ok (Value.slice none 0 0) w
  t85 : P.underlying 85 = some (TypeDesc.func #[56, 56] #[3] false)
  a85 : ∀ w, (isAgg 85).run P w = .ok false w
  z85 : ∀ w, (Go.sizeOf 85).run P w = .ok 1 w
  v85 : ∀ w, (zeroValue 85).run P w = .ok (Value.nilFunc) w
  f42 : P.funcs[42]? = some Tryd.f42
  t113 : P.underlying 113 = some (TypeDesc.int IntKind.u64)
  a113 : ∀ w, (isAgg 113).run P w = .ok false w
  z113 : ∀ w, (Go.sizeOf 113).run P w = .ok 1 w
  v113 : ∀ w, (zeroValue 113).run P w = .ok (Value.int IntKind.u64 0) w
  aE : ∀ w, (isAgg 56).run P w = .ok true w
  zE : ∀ w, (Go.sizeOf 56).run P w = .ok k w

set_option maxRecDepth 100000 in
theorem sortEnv : SortEnv Tryd.prog 6 where
  mixed := by kernel_rfl
  f99 := Tryd.func99
  f94 := Tryd.func94
  f81 := Tryd.func81
  t0 := by kernel_rfl
  a0 := fun w => by kernel_rfl
  z0 := fun w => by kernel_rfl
  v0 := fun w => by kernel_rfl
  t3 := by kernel_rfl
  a3 := fun w => by kernel_rfl
  z3 := fun w => by kernel_rfl
  v3 := fun w => by kernel_rfl
  t4 := by kernel_rfl
  a4 := fun w => by kernel_rfl
  z4 := fun w => by kernel_rfl
  v4 := fun w => by kernel_rfl
  t48 := by kernel_rfl
  a48 := fun w => by kernel_rfl
  z48 := fun w => by kernel_rfl
  v48 := fun w => by kernel_rfl
  t85 := by kernel_rfl
  a85 := fun w => by kernel_rfl
  z85 := fun w => by kernel_rfl
  v85 := fun w => by kernel_rfl
  f42 := Tryd.func42
  t113 := by kernel_rfl
  a113 := fun w => by kernel_rfl
  z113 := fun w => by kernel_rfl
  v113 := fun w => by kernel_rfl
  aE := fun w => by kernel_rfl
  zE := fun w => by kernel_rfl

set_option maxHeartbeats 4000000 in
set_option maxRecDepth 1000000 in
theorem swapRange_any {P : Program} {k : Nat} {enc : PV → List Value} (L : SortEnv P k) (blk off cap a b n : Nat) (d0 d : Array PV) (w0 w : World)
    (R : RowK enc k w0 blk off d0) (hs : d0.size = d.size) (S : SWK enc k w0 blk off d w) (ha : a + n ≤ d.size) (hb : b + n ≤ d.size) (hsz : d.size < 1099511627776) :
    Calls P 99 #[.slice (some ⟨blk, off, none⟩) d.size cap, .int .i64 a, .int .i64 b, .int .i64 n, fnC] w fun e w' => e = .returned (.tuple #[]) ∧ SWK enc k w0 blk off (swpRange d a b n) w' := by
  have mixed := L.mixed; have t0 := L.t0; have a0 := L.a0; have z0 := L.z0; have v0 := L.v0; have t3 := L.t3; have a3 := L.a3; have z3 := L.z3; have v3 := L.v3; have t4 := L.t4; have a4 := L.a4; have z4 := L.z4; have v4 := L.v4; have t48 := L.t48; have a48 := L.a48; have z48 := L.z48; have v48 := L.v48; have t85 := L.t85; have a85 := L.a85; have z85 := L.z85; have v85 := L.v85; have aE := L.aE; have zE := L.zE
  have F99 := L.f99
  have S0 : Aside (SWK enc k w0 blk off d w) := S
  clear S
  go_enter F99, Tryd.ntmps99
  go_wp2_with fail
  go_loopg [10] n (fun kx s wr => ∃ (i : Nat) (dk : Array PV), s = .int .i64 i ∧ i ≤ n ∧ n - i ≤ kx ∧ dk.size = d.size ∧ Aside (SWK enc k w0 blk off dk wr) ∧ swpRange dk (a + i) (b + i) (n - i) = swpRange d a b n)
  case atStart => exact ⟨0, d, rfl, by omega, by omega, rfl, S0, rfl⟩
  case round =>
    clear S0
    obtain ⟨i, dk, rfl, hi, hkx, hds, S1, heq⟩ := hrel
    by_cases hlt : i < n
    · have hltz : (i : Int) < (n : Int) := by omega
      go_wp2_with fail
      have pa44 : (0 : Int) ≤ (a : Int) + (i : Int) := by omega
      have ba44 : (a : Int) + (i : Int) < (d.size : Int) := by omega
      have ra44 : IntKind.i64.wrap ((a : Int) + (i : Int)) = (a : Int) + (i : Int) := by rw [IntKind.wrap_i64]; omega
      have ea44 : ((a : Int) + (i : Int)).toNat = a + i := by omega
      have pc44 : (0 : Int) ≤ (b : Int) + (i : Int) := by omega
      have bc44 : (b : Int) + (i : Int) < (d.size : Int) := by omega
      have rc44 : IntKind.i64.wrap ((b : Int) + (i : Int)) = (b : Int) + (i : Int) := by rw [IntKind.wrap_i64]; omega
      have ec44 : ((b : Int) + (i : Int)).toNat = b + i := by omega
      have S2 : Aside (SWK enc k w0 blk off (swp dk (a + i) (b + i)) ((wr.drew.setCells blk (off + (a + i) * k) (enc dk[b + i]!)).setCells blk (off + (b + i) * k) (enc dk[a + i]!))) := S1.out.swapped R (a + i) (b + i) (by omega) (by omega)
      have l44a := S1.out.ld1 R (by omega) P (a + i) (by omega)
      have l44b := S1.out.ld1 R (by omega) P (b + i) (by omega)
      have s44a := S1.out.st1 R (by omega) P (a + i) (by omega) dk[b + i]!
      have s44b := S1.out.st2 R (by omega) P (a + i) (b + i) (by omega) (by omega) dk[b + i]! dk[a + i]!
      have n44a : (enc dk[a + i]!).length = k := R.hk _
      have n44b : (enc dk[b + i]!).length = k := R.hk _
      generalize enc dk[a + i]! = cI44 at S2 l44a s44b n44a
      generalize enc dk[b + i]! = cJ44 at S2 l44b s44a s44b n44b
      clear S1
      go_big_region_o
      clear l44a l44b s44a s44b
      generalize (wr.drew.setCells blk (off + (a + i) * k) cJ44).setCells blk (off + (b + i) * k) cI44 = w2 at S2 ⊢
      go_wp2
      go_roundg (n - (i + 1))
      case measure => omega
      case rel =>
        refine ⟨i + 1, swp dk (a + i) (b + i), by simp, by omega, Nat.le_refl _, by rw [size_swp]; exact hds, S2, ?_⟩
        rw [← heq, show n - i = (n - (i + 1)) + 1 by omega]
        rfl
    · have hltz : ¬(i : Int) < (n : Int) := by omega
      obtain rfl : i = n := by omega
      go_wp2_with fail
      go_end0
      refine ⟨rfl, ?_⟩
      rw [Nat.sub_self] at heq
      rw [← heq]
      exact S1.out

end Go.Proofs.YtmleipmilmeclaaDoor

/- Sorting pairs: rotation, in plain Lean. -/
namespace Go.Proofs.YtmleipmilmeclaaDoor
open Go.Sort

theorem size_swpRange : ∀ (n : Nat) (d : Array PV) (a b : Nat), (swpRange d a b n).size = d.size
  | 0, _, _, _ => rfl
  | n + 1, d, a, b => by unfold swpRange; rw [size_swpRange n, size_swp]

/-- Where an element comes from. -/
def srIx (a b n t : Nat) : Nat := if a ≤ t ∧ t < a + n then t + (b - a) else if b ≤ t ∧ t < b + n then t - (b - a) else t

theorem swpRange_get : ∀ (n : Nat) (d : Array PV) (a b t : Nat), a + n ≤ b → b + n ≤ d.size → t < d.size → (swpRange d a b n)[t]! = d[srIx a b n t]!
  | 0, d, a, b, t, _, _, _ => by
    unfold swpRange srIx
    rw [if_neg (by omega), if_neg (by omega)]
  | n + 1, d, a, b, t, hab, hb, ht => by
    unfold swpRange
    rw [swpRange_get n _ (a + 1) (b + 1) t (by omega) (by rw [size_swp]; omega) (by rw [size_swp]; exact ht), swp_get d (by omega) (by omega)]
    have e : (if srIx (a + 1) (b + 1) n t = b then a else if srIx (a + 1) (b + 1) n t = a then b else srIx (a + 1) (b + 1) n t) = srIx a b (n + 1) t := by
      unfold srIx
      repeat' split
      all_goals omega
    rw [← e]
    repeat' split
    all_goals rfl

theorem swpRange_perm : ∀ (n : Nat) (d : Array PV) (a b lo hi : Nat), lo ≤ a → a + n ≤ hi → lo ≤ b → b + n ≤ hi → hi ≤ d.size → PermIn lo hi d (swpRange d a b n)
  | 0, d, _, _, _, _, _, _, _, _, _ => permIn_refl _ _ _
  | n + 1, d, a, b, lo, hi, h1, h2, h3, h4, h5 => by
    unfold swpRange
    exact permIn_trans _ _ _ _ _ (swp_permIn d lo hi a b h1 (by omega) h3 (by omega) h5) (swpRange_perm n _ _ _ _ _ (by omega) (by omega) (by omega) (by omega) (by rw [size_swp]; exact h5))

def rotIx (s m e t : Nat) : Nat := if s ≤ t ∧ t < s + (e - m) then t + (m - s) else if s + (e - m) ≤ t ∧ t < e then t - (e - m) else t
theorem rotIx_lt (s m e n t : Nat) (h1 : s ≤ m) (h2 : m ≤ e) (h3 : e ≤ n) (ht : t < n) : rotIx s m e t < n := by
  unfold rotIx
  repeat' split
  all_goals omega
/-- d' is d with the places s .. m and m .. e exchanged. -/
def Rot (d : Array PV) (s m e : Nat) (d' : Array PV) : Prop := PermIn s e d d' ∧ ∀ t, t < d.size → d'[t]! = d[rotIx s m e t]!

theorem rot_end (d : Array PV) (m i : Nat) (hi : i ≤ m) (h : m + i ≤ d.size) : Rot d (m - i) m (m + i) (swpRange d (m - i) m i) := by
  refine ⟨swpRange_perm _ _ _ _ _ _ (Nat.le_refl _) (by omega) (by omega) (by omega) h, fun t ht => ?_⟩
  rw [swpRange_get _ _ _ _ _ (by omega) h ht]
  have e : srIx (m - i) m i t = rotIx (m - i) m (m + i) t := by
    unfold srIx rotIx
    repeat' split
    all_goals omega
  rw [e]

theorem rot_gt (d d' : Array PV) (m i j : Nat) (hij : j < i) (hi : i ≤ m) (h : m + j ≤ d.size) (hr : Rot (swpRange d (m - i) m j) (m - (i - j)) m (m + j) d') : Rot d (m - i) m (m + j) d' := by
  obtain ⟨hp, hg⟩ := hr
  have hsz := size_swpRange j d (m - i) m
  refine ⟨permIn_trans _ _ _ _ _ (swpRange_perm j d (m - i) m (m - i) (m + j) (Nat.le_refl _) (by omega) (by omega) (by omega) h) (permIn_mono _ _ _ _ _ _ (by omega) (Nat.le_refl _) (by rw [hsz]; exact h) hp), fun t ht => ?_⟩
  rw [hg t (by rw [hsz]; exact ht), swpRange_get _ _ _ _ _ (by omega) h (rotIx_lt _ _ _ _ _ (by omega) (by omega) (by omega) ht)]
  have e : srIx (m - i) m j (rotIx (m - (i - j)) m (m + j) t) = rotIx (m - i) m (m + j) t := by
    unfold srIx rotIx
    repeat' split
    all_goals omega
  rw [e]

theorem rot_lt (d d' : Array PV) (m i j : Nat) (hij : i < j) (hi : i ≤ m) (h : m + j ≤ d.size) (hr : Rot (swpRange d (m - i) (m + j - i) i) (m - i) m (m + (j - i)) d') : Rot d (m - i) m (m + j) d' := by
  obtain ⟨hp, hg⟩ := hr
  have hsz := size_swpRange i d (m - i) (m + j - i)
  refine ⟨permIn_trans _ _ _ _ _ (swpRange_perm i d (m - i) (m + j - i) (m - i) (m + j) (Nat.le_refl _) (by omega) (by omega) (by omega) h) (permIn_mono _ _ _ _ _ _ (Nat.le_refl _) (by omega) (by rw [hsz]; exact h) hp), fun t ht => ?_⟩
  rw [hg t (by rw [hsz]; exact ht), swpRange_get _ _ _ _ _ (by omega) (by omega) (rotIx_lt _ _ _ _ _ (by omega) (by omega) (by omega) ht)]
  have e : srIx (m - i) (m + j - i) i (rotIx (m - i) m (m + (j - i)) t) = rotIx (m - i) m (m + j) t := by
    unfold srIx rotIx
    repeat' split
    all_goals omega
  rw [e]

end Go.Proofs.YtmleipmilmeclaaDoor
