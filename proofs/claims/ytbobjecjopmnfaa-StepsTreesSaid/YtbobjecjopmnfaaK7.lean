/- The walk of Ready. -/
import Derived.Test.YtbobjecjopmnfaaK6
import Derived.Laws.EntriesVeiled
namespace Go.Proofs.Ytbobjecjopmnfaa
open Go.RowKit
open Pt (szL sz encL enc roots encL_length roots_length enc_length RT)
set_option maxHeartbeats 2000000 in
theorem ready_nil {A : Option Addr} {c : Nat} (w : World) : Calls Try.prog 42 #[.agg #[.slice A 0 c]] w (MadeI [] w) := by
  go_enter Try.func42, Try.ntmps42
  go_wp2
  go_ret
  exact ⟨none, 0, rfl, Row.nil _ _ _, fun b hb => (Fp_none hb).elim, (Below.refl _ _).alloc (Nat.le_refl _) _⟩
set_option maxHeartbeats 2000000 in
theorem ready_wrong {ok : Nat → Prop} {A : Option Addr} {c : Nat} (l : List Nd) (w : World) (h : Rds El.nd w ok (.slice A l.length c) l) (hf : Fits22 l) (h0 : 0 < l.length) (hr : rightB l = false) :
    Calls Try.prog 42 #[.agg #[.slice A l.length c]] w (MadeI [] w) := by
  have H := hide h
  have hc := fun W hb => right_any l W (h.below hb) hf
  have hl := hf.1
  have HC := hide hc
  have n0 : ((l.length : Int) == 0) = false := by rw [beq_eq_false_iff_ne]; omega
  have n1 : (l.length == 0) = false := by rw [beq_eq_false_iff_ne]; omega
  have HR := hide hr
  clear h hc hf hr
  go_enter Try.func42, Try.ntmps42
  go_wp2_with (go_at_call 41; refine (HC.out _ (by repeat (first | exact Below.refl _ _ | refine Below.drew ?_ | refine below_drewN ?_ _ | refine Below.alloc ?_ (by simp) _))).mono ?_; rw [HR.out]; rintro e w2 ⟨rfl, hb2⟩; have hB2 : Below w.heap.size w w2 := below_then (by repeat (first | exact Below.refl _ _ | refine Below.drew ?_ | refine below_drewN ?_ _ | refine Below.alloc ?_ (by simp) _)) hb2; have HB2 := hide hB2; clear hB2; clear hb2)
  go_ret
  exact ⟨none, 0, rfl, Row.nil _ _ _, fun b hb => (Fp_none hb).elim, HB2.out⟩
set_option maxHeartbeats 4000000 in
theorem ready_right {ok : Nat → Prop} {A : Option Addr} {c : Nat} (l : List Nd) (p : Pt) (w : World) (h : Rds El.nd w ok (.slice A l.length c) l) (hf : Fits22 l) (hp : RT p) (he : l = enc 0 p) :
    Calls Try.prog 42 #[.agg #[.slice A l.length c]] w (MadeI (readyT 0 p) w) := by
  have hr : rightB l = true := (rightB_iff l).2 (.inr ⟨p, hp, he⟩)
  have hll : l.length = sz p := by rw [he, enc_length]
  have hpos := Pt.sz_pos p
  have hh : Here l 0 p := by
    unfold Here
    rw [he, List.drop_zero, List.take_of_length_le (by rw [enc_length]; exact Nat.le_refl _)]
  have H := hide h
  have hc := fun W hb => right_any l W (h.below hb) hf
  have hl := hf.1
  have HC := hide hc
  have n0 : ((l.length : Int) == 0) = false := by rw [beq_eq_false_iff_ne]; omega
  have n1 : (l.length == 0) = false := by rw [beq_eq_false_iff_ne]; omega
  have h0 : 0 < l.length := by omega
  have HR := hide hr
  have HH := hide hh
  have HP := hide hp
  have HLL := hide hll
  clear h hc hf hr hh hp hll he hpos
  go_enter Try.func42, Try.ntmps42
  go_wp2_with (go_at_call 41; refine (HC.out _ (by repeat (first | exact Below.refl _ _ | refine Below.drew ?_ | refine below_drewN ?_ _ | refine Below.alloc ?_ (by simp) _))).mono ?_; rw [HR.out]; rintro e w2 ⟨rfl, hb2⟩; have bx := box_same (g := w.heap.size) (o := .cells #[.slice A l.length c] 59 (0, 0)) (by repeat (first | exact heap_alloc_new _ _)) hb2; have x0 := blk_cell bx 0; have xlt := blk_lt bx; simp at x0; have BX := hide bx; have hB2 : Below w.heap.size w w2 := below_then (by repeat (first | exact Below.refl _ _ | refine Below.drew ?_ | refine below_drewN ?_ _ | refine Below.alloc ?_ (by simp) _)) hb2; have HB2 := hide hB2; clear hB2; clear hb2 bx)
  have hsz := HB2.out.size
  have hrea : Rea w ((w2.alloc (.cells #[.slice none 0 0] 36)).alloc (.cells #[.func (.func 73) #[] #[.pointer (some ⟨w.heap.size, 0, none⟩), .pointer (some ⟨w2.heap.size + 1, 0, none⟩), .pointer (some ⟨w2.heap.size, 0, none⟩)]] 116)) A c l w.heap.size (w2.heap.size + 1) w2.heap.size none 0 0 [] :=
    ⟨blk_alloc (blk_alloc BX.out _) _, blk_new (by simp), blk_alloc (heap_alloc_new _ _) _, Row.nil _ _ _, rfl, fun b hb => (Fp_none hb).elim, hsz, (HB2.out.alloc hsz _).alloc (by simp; omega) _⟩
  have hcc := ready1_any H.out hl (sz p) p (Nat.le_refl _) 0 _ none 0 0 [] HP.out HH.out hrea (by have := HLL.out; simp; omega)
  rw [show ((0 + sz p : Nat) - 1 : Int) = (l.length : Int) - 1 by have := HLL.out; omega, List.nil_append] at hcc
  go_at_call 73
  refine hcc.mono ?_
  rintro e w5 ⟨rfl, B, q, cb, hR, hO, hF⟩
  have o0 := blk_cell hR.ho 0
  simp at o0
  have hq := hR.len
  subst hq
  have HRR := hide hR
  clear hcc hrea hR hO hF
  go_wp2
  go_ret
  exact ⟨B, cb, rfl, HRR.out.row, HRR.out.fp, HRR.out.hb⟩
end Go.Proofs.Ytbobjecjopmnfaa
