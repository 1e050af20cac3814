/- Walks: Tell of all. -/
import Derived.Test.YtmleipmilmeclaaDoorWs
namespace Go.Proofs.YtmleipmilmeclaaDoor
open Go.RowKit
attribute [local go_sem ↓] Go.wp_at_zero Go.wp_at_succ

set_option maxHeartbeats 2000000 in
theorem tell_stats (r : R) (hr : r.Ok) (hs : I64 r.s) (w : World) :
    Calls Tryd.prog 9 #[.int .i64 5, rv r] w fun e w' => ∃ b g cap, e = .returned (.tuple #[.agg #[.int .i64 6, .int .i64 0, .string ⟨#[]⟩, .slice (some ⟨g, 0, none⟩) 5 cap, .slice (some ⟨b, 0, none⟩) 5 5], .int .i64 0]) ∧ 5 ≤ cap ∧ w.heap.size ≤ g ∧ w.heap.size ≤ b ∧
      Blk w' b keysC 9 ∧ (∀ j u, (kidsC (five r))[j]? = some u → w'.cell? ⟨g, j, none⟩ = some u) ∧ g < w'.heap.size ∧ Below w.heap.size w w' := by
  have h1 := Lib.hid (check_ok r hr)
  have h2 := stats_any r hr.toNum hs
  generalize kidsC (five r) = KS at *
  have h2 := Lib.hid h2
  clear hr
  obtain ⟨c, i, s, l, m⟩ := r
  simp only [rv] at *
  go_enter Tryd.func9, Tryd.ntmps9
  go_wp2_with fail
  refine (h1.out _).mono ?_; rintro e w1 ⟨rfl, hb1⟩; obtain ⟨hc1, hf1⟩ := bcell hb1
  have z1 := hb1.size
  simp only [World.size_alloc] at z1 hc1 hf1
  have y1 : w.heap.size < w1.heap.size := by omega
  have y2 : w.heap.size + 1 < w1.heap.size := by omega
  go_wp2_with fail
  go_region_with
    (first
      | (go_at_call 30; refine (kinds_any _).mono ?_; rintro e w2 ⟨g, cap, rfl, hcap, ⟨hg, hk⟩, hge, hb2⟩; have k5 := hk 11 _ rfl; clear hk; obtain ⟨hc2, hf2⟩ := bcell hb2; simp only [World.size_drew] at hc2 hf2; have z2 := hb2.size; simp only [World.size_drew] at z2; (have y3 : w.heap.size < w2.heap.size := by omega); (have y4 : w.heap.size + 1 < w2.heap.size := by omega))
      | (go_at_call 53; refine (h2.out _).mono ?_; rintro e w3 ⟨bk, gk, capk, rfl, hcapk, hgk, hbk, kk, hkc, hkl, hb3⟩; have hkc' := Lib.hid hkc; clear hkc; obtain ⟨hc3, hf3⟩ := bcell hb3; have z3 := hb3.size; (have y5 : w.heap.size < w3.heap.size := by omega); (have y6 : w.heap.size + 1 < w3.heap.size := by omega)))
  all_goals go_wp2
  all_goals
    refine bodyPost_ret (v := .tuple #[.agg #[.int .i64 6, .int .i64 0, .string ⟨#[]⟩, .slice (some ⟨gk, 0, none⟩) 5 capk, .slice (some ⟨bk, 0, none⟩) 5 5], .int .i64 0]) (by simp [results, Tryd.results9, go_sem, *]) rfl ⟨_, _, _, rfl, hcapk, by omega, by omega, ?_, ?_, ?_, ?_⟩
    · repeat' (first | (with_reducible exact kk) | (with_reducible refine Blk.off ?_ _ (by omega)))
    · intro j u hu
      have h := hkc'.out j u hu
      rw [cell_off _ _ _ _ _ _ (by omega), cell_off _ _ _ _ _ _ (by omega), cell_off _ _ _ _ _ _ (by omega), cell_off _ _ _ _ _ _ (by omega), cell_off _ _ _ _ _ _ (by omega)]
      exact h
    · simpa using hkl
    · repeat' (first | (with_reducible exact Below.refl _ _) | (with_reducible refine Below.alloc ?_ (by go_size) _) | (with_reducible refine Below.drew ?_) | (with_reducible refine Below.set ?_ (by omega) _) | (with_reducible refine Below.after ?_ (by with_reducible assumption) (by go_size)))

end Go.Proofs.YtmleipmilmeclaaDoor
