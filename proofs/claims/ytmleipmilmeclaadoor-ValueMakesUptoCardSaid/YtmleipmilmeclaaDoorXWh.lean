/- Walks: Tell. -/
import Derived.Test.YtmleipmilmeclaaDoorXWe
namespace Go.Proofs.YtmleipmilmeclaaDoor
open Go.RowKit
attribute [local go_sem ↓] Go.wp_at_zero Go.wp_at_succ

set_option maxHeartbeats 2000000 in
theorem tell_sum (r : R) (hr : r.Ok) (hs : I64 r.s) (w : World) :
    Calls Tryd.prog 9 #[.int .i64 2, rv r] w fun e w' => e = .returned (.tuple #[vInt r.s, .int .i64 0]) ∧ Below w.heap.size w w' := by
  have h1 := Lib.hid (check_ok r hr)
  have h2 := sums_yes r hs
  have h2 := Lib.hid h2
  clear hr
  obtain ⟨c, i, s, l, m⟩ := r
  simp only [rv] at *
  go_enter Tryd.func9, Tryd.ntmps9
  go_wp2_with fail
  refine (h1.out _).mono ?_; rintro e w1 ⟨rfl, hb1⟩; obtain ⟨hc1, hf1⟩ := bcell hb1
  have z1 := hb1.size
  simp only [World.size_alloc] at z1 hc1 hf1
  have y1 : w.heap.size < w1.heap.size := by omega
  have y2 : w.heap.size + 1 < w1.heap.size := by omega
  go_wp2_with fail
  go_region_with
    (first
      | (go_at_call 30; refine (kinds_any _).mono ?_; rintro e w2 ⟨g, cap, rfl, hcap, ⟨hg, hk⟩, hge, hb2⟩; have k5 := hk 5 _ rfl; clear hk; obtain ⟨hc2, hf2⟩ := bcell hb2; simp only [World.size_drew] at hc2 hf2; have z2 := hb2.size; simp only [World.size_drew] at z2; (have y3 : w.heap.size < w2.heap.size := by omega); (have y4 : w.heap.size + 1 < w2.heap.size := by omega))
      | (go_at_call 67; refine (h2.out _).mono ?_; rintro e w3 ⟨rfl, hb3⟩; obtain ⟨hc3, hf3⟩ := bcell hb3; have z3 := hb3.size; (have y5 : w.heap.size < w3.heap.size := by omega); (have y6 : w.heap.size + 1 < w3.heap.size := by omega)))
  all_goals go_wp2
  all_goals
    refine bodyPost_ret (v := .tuple #[vInt s, .int .i64 0]) (by simp [results, Tryd.results9, go_sem, *]) rfl ⟨rfl, ?_⟩
    repeat' (first | (with_reducible exact Below.refl _ _) | (with_reducible refine Below.alloc ?_ (by go_size) _) | (with_reducible refine Below.drew ?_) | (with_reducible refine Below.set ?_ (by omega) _) | (with_reducible refine Below.after ?_ (by with_reducible assumption) (by go_size)))

set_option maxHeartbeats 2000000 in
theorem tell_over (r : R) (hr : r.Ok) (hs : ¬ I64 r.s) (w : World) :
    Calls Tryd.prog 9 #[.int .i64 2, rv r] w fun e w' => e = .returned (.tuple #[vZero, .int .i64 5]) ∧ Below w.heap.size w w' := by
  have h1 := Lib.hid (check_ok r hr)
  have h2 := sums_no r hs
  have h2 := Lib.hid h2
  clear hr
  obtain ⟨c, i, s, l, m⟩ := r
  simp only [rv] at *
  go_enter Tryd.func9, Tryd.ntmps9
  go_wp2_with fail
  refine (h1.out _).mono ?_; rintro e w1 ⟨rfl, hb1⟩; obtain ⟨hc1, hf1⟩ := bcell hb1
  have z1 := hb1.size
  simp only [World.size_alloc] at z1 hc1 hf1
  have y1 : w.heap.size < w1.heap.size := by omega
  have y2 : w.heap.size + 1 < w1.heap.size := by omega
  go_wp2_with fail
  go_region_with
    (first
      | (go_at_call 30; refine (kinds_any _).mono ?_; rintro e w2 ⟨g, cap, rfl, hcap, ⟨hg, hk⟩, hge, hb2⟩; have k5 := hk 5 _ rfl; clear hk; obtain ⟨hc2, hf2⟩ := bcell hb2; simp only [World.size_drew] at hc2 hf2; have z2 := hb2.size; simp only [World.size_drew] at z2; (have y3 : w.heap.size < w2.heap.size := by omega); (have y4 : w.heap.size + 1 < w2.heap.size := by omega))
      | (go_at_call 67; refine (h2.out _).mono ?_; rintro e w3 ⟨rfl, hb3⟩; obtain ⟨hc3, hf3⟩ := bcell hb3; have z3 := hb3.size; (have y5 : w.heap.size < w3.heap.size := by omega); (have y6 : w.heap.size + 1 < w3.heap.size := by omega)))
  all_goals go_wp2
  all_goals
    refine bodyPost_ret (v := .tuple #[vZero, .int .i64 5]) (by simp [results, Tryd.results9, go_sem, *]) rfl ⟨rfl, ?_⟩
    repeat' (first | (with_reducible exact Below.refl _ _) | (with_reducible refine Below.alloc ?_ (by go_size) _) | (with_reducible refine Below.drew ?_) | (with_reducible refine Below.set ?_ (by omega) _) | (with_reducible refine Below.after ?_ (by with_reducible assumption) (by go_size)))

set_option maxHeartbeats 2000000 in
theorem tell_count (r : R) (hr : r.Ok) (w : World) :
    Calls Tryd.prog 9 #[.int .i64 1, rv r] w fun e w' => e = .returned (.tuple #[vInt r.c, .int .i64 0]) ∧ Below w.heap.size w w' := by
  have h1 := Lib.hid (check_ok r hr)
  have h2 := count_any r hr.toNum
  have h2 := Lib.hid h2
  clear hr
  obtain ⟨c, i, s, l, m⟩ := r
  simp only [rv] at *
  go_enter Tryd.func9, Tryd.ntmps9
  go_wp2_with fail
  refine (h1.out _).mono ?_; rintro e w1 ⟨rfl, hb1⟩; obtain ⟨hc1, hf1⟩ := bcell hb1
  have z1 := hb1.size
  simp only [World.size_alloc] at z1 hc1 hf1
  have y1 : w.heap.size < w1.heap.size := by omega
  have y2 : w.heap.size + 1 < w1.heap.size := by omega
  go_wp2_with fail
  go_region_with
    (first
      | (go_at_call 30; refine (kinds_any _).mono ?_; rintro e w2 ⟨g, cap, rfl, hcap, ⟨hg, hk⟩, hge, hb2⟩; have k5 := hk 3 _ rfl; clear hk; obtain ⟨hc2, hf2⟩ := bcell hb2; simp only [World.size_drew] at hc2 hf2; have z2 := hb2.size; simp only [World.size_drew] at z2; (have y3 : w.heap.size < w2.heap.size := by omega); (have y4 : w.heap.size + 1 < w2.heap.size := by omega))
      | (go_at_call 66; refine (h2.out _).mono ?_; rintro e w3 ⟨rfl, hb3⟩; obtain ⟨hc3, hf3⟩ := bcell hb3; have z3 := hb3.size; (have y5 : w.heap.size < w3.heap.size := by omega); (have y6 : w.heap.size + 1 < w3.heap.size := by omega)))
  all_goals go_wp2
  all_goals
    refine bodyPost_ret (v := .tuple #[vInt c, .int .i64 0]) (by simp [results, Tryd.results9, go_sem, *]) rfl ⟨rfl, ?_⟩
    repeat' (first | (with_reducible exact Below.refl _ _) | (with_reducible refine Below.alloc ?_ (by go_size) _) | (with_reducible refine Below.drew ?_) | (with_reducible refine Below.set ?_ (by omega) _) | (with_reducible refine Below.after ?_ (by with_reducible assumption) (by go_size)))

set_option maxHeartbeats 2000000 in
theorem tell_least (r : R) (hr : r.Ok) (w : World) :
    Calls Tryd.prog 9 #[.int .i64 3, rv r] w fun e w' => e = .returned (.tuple #[vKN (kd r.i) (nn r.i r.l), .int .i64 0]) ∧ Below w.heap.size w w' := by
  have h1 := Lib.hid (check_ok r hr)
  have h2 := simple1_any r
  generalize kd r.i = a at *
  generalize nn r.i r.l = b at *
  have h2 := Lib.hid h2
  clear hr
  obtain ⟨c, i, s, l, m⟩ := r
  simp only [rv] at *
  go_enter Tryd.func9, Tryd.ntmps9
  go_wp2_with fail
  refine (h1.out _).mono ?_; rintro e w1 ⟨rfl, hb1⟩; obtain ⟨hc1, hf1⟩ := bcell hb1
  have z1 := hb1.size
  simp only [World.size_alloc] at z1 hc1 hf1
  have y1 : w.heap.size < w1.heap.size := by omega
  have y2 : w.heap.size + 1 < w1.heap.size := by omega
  go_wp2_with fail
  go_region_with
    (first
      | (go_at_call 30; refine (kinds_any _).mono ?_; rintro e w2 ⟨g, cap, rfl, hcap, ⟨hg, hk⟩, hge, hb2⟩; have k5 := hk 7 _ rfl; clear hk; obtain ⟨hc2, hf2⟩ := bcell hb2; simp only [World.size_drew] at hc2 hf2; have z2 := hb2.size; simp only [World.size_drew] at z2; (have y3 : w.heap.size < w2.heap.size := by omega); (have y4 : w.heap.size + 1 < w2.heap.size := by omega))
      | (go_at_call 68; refine (h2.out _).mono ?_; rintro e w3 ⟨rfl, hb3⟩; obtain ⟨hc3, hf3⟩ := bcell hb3; have z3 := hb3.size; (have y5 : w.heap.size < w3.heap.size := by omega); (have y6 : w.heap.size + 1 < w3.heap.size := by omega)))
  all_goals go_wp2
  all_goals
    refine bodyPost_ret (v := .tuple #[vKN a b, .int .i64 0]) (by simp [results, Tryd.results9, go_sem, *]) rfl ⟨rfl, ?_⟩
    repeat' (first | (with_reducible exact Below.refl _ _) | (with_reducible refine Below.alloc ?_ (by go_size) _) | (with_reducible refine Below.drew ?_) | (with_reducible refine Below.set ?_ (by omega) _) | (with_reducible refine Below.after ?_ (by with_reducible assumption) (by go_size)))

set_option maxHeartbeats 2000000 in
theorem tell_most (r : R) (hr : r.Ok) (w : World) :
    Calls Tryd.prog 9 #[.int .i64 4, rv r] w fun e w' => e = .returned (.tuple #[vKN (kd r.i) (nn r.i r.m), .int .i64 0]) ∧ Below w.heap.size w w' := by
  have h1 := Lib.hid (check_ok r hr)
  have h2 := simple2_any r
  generalize kd r.i = a at *
  generalize nn r.i r.m = b at *
  have h2 := Lib.hid h2
  clear hr
  obtain ⟨c, i, s, l, m⟩ := r
  simp only [rv] at *
  go_enter Tryd.func9, Tryd.ntmps9
  go_wp2_with fail
  refine (h1.out _).mono ?_; rintro e w1 ⟨rfl, hb1⟩; obtain ⟨hc1, hf1⟩ := bcell hb1
  have z1 := hb1.size
  simp only [World.size_alloc] at z1 hc1 hf1
  have y1 : w.heap.size < w1.heap.size := by omega
  have y2 : w.heap.size + 1 < w1.heap.size := by omega
  go_wp2_with fail
  go_region_with
    (first
      | (go_at_call 30; refine (kinds_any _).mono ?_; rintro e w2 ⟨g, cap, rfl, hcap, ⟨hg, hk⟩, hge, hb2⟩; have k5 := hk 9 _ rfl; clear hk; obtain ⟨hc2, hf2⟩ := bcell hb2; simp only [World.size_drew] at hc2 hf2; have z2 := hb2.size; simp only [World.size_drew] at z2; (have y3 : w.heap.size < w2.heap.size := by omega); (have y4 : w.heap.size + 1 < w2.heap.size := by omega))
      | (go_at_call 70; refine (h2.out _).mono ?_; rintro e w3 ⟨rfl, hb3⟩; obtain ⟨hc3, hf3⟩ := bcell hb3; have z3 := hb3.size; (have y5 : w.heap.size < w3.heap.size := by omega); (have y6 : w.heap.size + 1 < w3.heap.size := by omega)))
  all_goals go_wp2
  all_goals
    refine bodyPost_ret (v := .tuple #[vKN a b, .int .i64 0]) (by simp [results, Tryd.results9, go_sem, *]) rfl ⟨rfl, ?_⟩
    repeat' (first | (with_reducible exact Below.refl _ _) | (with_reducible refine Below.alloc ?_ (by go_size) _) | (with_reducible refine Below.drew ?_) | (with_reducible refine Below.set ?_ (by omega) _) | (with_reducible refine Below.after ?_ (by with_reducible assumption) (by go_size)))

end Go.Proofs.YtmleipmilmeclaaDoor
