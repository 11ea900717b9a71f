/- The walk of PoolPlays. -/
import Derived.Test.YtbobjecjopmnfaaG2
namespace Go.Proofs.Ytbobjecjopmnfaa
open Go.RowKit
theorem is_duo {B p r : Nat} {w0 w : World} {m : M} {bx : List (Nat × Obj)} (D : Duo B w0 w p r m m bx) :
    Calls Try.prog 17 #[.pointer (some ⟨p, 0, none⟩), .pointer (some ⟨r, 0, none⟩)] w fun e w' => e = .returned (.bool true) ∧ Duo B w0 w' p r m m bx := by
  obtain ⟨h0, h1, okp, okr, hp, hr, dis, np, nr, hx⟩ := D
  refine (is_any w hp hr).mono ?_
  rintro e w' ⟨he, hb⟩
  exact ⟨he, Duo.below ⟨h0, h1, okp, okr, hp, hr, dis, np, nr, hx⟩ hb⟩
theorem Duo.new (room : Int) (w : World) : Duo w.heap.size w ((w.alloc (pool0 room 90)).alloc (pool0 room 92)) w.heap.size (w.heap.size + 1) (M.fresh room) (M.fresh room) [] := by
  have e : (w.alloc (pool0 room 90)).heap.size = w.heap.size + 1 := by simp
  have hs : w.heap.size ≤ (w.alloc (pool0 room 90)).heap.size := by omega
  have hr := At.fresh room 92 94 (w.alloc (pool0 room 90))
  rw [e] at hr
  refine ⟨Nat.le_refl _, ((Below.refl _ _).alloc (Nat.le_refl _) _).alloc hs _, _, _, (At.fresh room 90 31 w).below ((Below.refl _ _).alloc (Nat.le_refl _) _), hr, fun b h h' => ?_, fun b h => ?_, fun b h => ?_, fun x h => by cases h⟩
  · have h1 : b = w.heap.size := h
    have h2 : b = w.heap.size + 1 := h'
    omega
  · have h1 : b = w.heap.size := h
    omega
  · have h2 : b = w.heap.size + 1 := h
    omega
set_option maxHeartbeats 4000000 in
theorem plays_any {ok : Nat → Prop} {A : Option Addr} {c : Nat} (room : Int) (l : List Act) (w : World) (h : Rd w ok 5 (.slice A l.length c) l.length (acells l)) :
    Calls Try.prog 3 #[.int .i64 room, .slice A l.length c] w fun e w' => e = .returned (.bool true) ∧ Below w.heap.size w w' := by
  have H := hide h
  clear h
  go_enter Try.func3, Try.ntmps3
  go_wp2_with fail
  go_at_call 12
  refine (few_any l 100 (by omega) _ H.out).mono ?_
  rintro e w1 ⟨b, rfl, hf, hw⟩
  have hw' := hw.symm
  subst hw'
  clear hw
  cases b
  · clear hf
    go_wp2_with fail
    go_at_call 13
    refine (works_any _).mono ?_
    rintro e w2 ⟨rfl, hb2⟩
    have HB2 := hide hb2
    clear hb2
    go_wp2
    go_ret
    exact ⟨rfl, HB2.out⟩
  · have hl := (hf rfl).1
    clear hf
    have D0 := hide (Duo.new room w)
    go_wp2_with fail
    go_at_call 14
    refine (pnew_any _ _).mono ?_
    rintro e _ ⟨rfl, rfl⟩
    go_wp2_with fail
    go_at_call 15
    refine (rnew_any _ _).mono ?_
    rintro e _ ⟨rfl, rfl⟩
    go_wp2
    go_loopw [7] (fun vi wr => ∃ (j : Nat) (m : M), j ≤ l.length ∧ vi = .int .i64 j ∧ Hid (Duo w.heap.size w wr w.heap.size (w.heap.size + 1) m m [])) (fun vi _ => l.length - (intOf vi).toNat)
    case atStart => exact ⟨0, _, Nat.zero_le _, rfl, D0.out⟩
    case round =>
      clear D0
      obtain ⟨j, m, hj, rfl, D⟩ := hrel
      by_cases hlt2 : j < l.length
      · obtain ⟨ad, hA, hltd, x0, x1, x2, x3, x4⟩ := (H.out.below D.out.2.1).geta j hlt2 (by omega)
        obtain ⟨x, hx⟩ : ∃ x, x = l[j] := ⟨_, rfl⟩
        rw [← hx] at x0 x1 x2 x3 x4
        subst hA
        clear hx
        obtain ⟨kd, k, nm, ar, pl⟩ := x
        simp only at x0 x1 x2 x3 x4
        go_wp2_with (first | ((go_at_call 16); (refine (does_any kd k nm ar pl _ D.out).mono ?_); rintro e w2 ⟨rfl, d2⟩; have D2 := hide d2; clear d2) | ((go_at_call 17); (refine (is_duo D2.out).mono ?_); rintro e w3 ⟨rfl, d3⟩; have D3 := hide d3; clear d3))
        go_roundw
        case rel => exact ⟨j + 1, _, by omega, by go_num, D3.out⟩
        case measure => simp [intOf]; omega
      · go_wp2_with (first | ((go_at_call 17); (refine (is_duo D.out).mono ?_); rintro e w3 ⟨rfl, d3⟩; have D3 := hide d3; clear d3) | ((go_at_call 13); (refine (works_any _).mono ?_); rintro e w4 ⟨rfl, hb4⟩; have D4 := hide (D3.out.below hb4); clear hb4))
        go_ret
        exact ⟨rfl, D4.out.2.1⟩
end Go.Proofs.Ytbobjecjopmnfaa
