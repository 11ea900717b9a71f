/- The walk of StepsTake. -/
import Derived.Test.YtbobjecjopmnfaaNB
import Derived.Test.YtbobjecjopmnfaaN7
import Derived.Test.YtbobjecjopmnfaaN6
import Derived.Test.YtbobjecjopmnfaaKG
namespace Go.Proofs.Ytbobjecjopmnfaa
open Go.RowKit
open Pt (szL sz encL enc roots encL_length roots_length enc_length shift RT)
/-- Two boxes, the arguments. -/
structure T9 (w W : World) (a b : Value) : Prop where
  bt : W.heap[w.heap.size]? = some (.cells #[a] 59 (0, 0))
  bb : W.heap[w.heap.size + 1]? = some (.cells #[b] 59 (0, 0))
  hb : Below w.heap.size w W
section
variable {w W W' : World} {a b : Value}
theorem T9.below (h : T9 w W a b) (hB : Below W.heap.size W W') : T9 w W' a b := ⟨box_same h.bt hB, box_same h.bb hB, below_then h.hb hB⟩
theorem T9.cells (h : T9 w W a b) : W.cell? ⟨w.heap.size, 0, none⟩ = some a ∧ W.cell? ⟨w.heap.size + 1, 0, none⟩ = some b ∧ w.heap.size < W.heap.size ∧ w.heap.size + 1 < W.heap.size := by
  have h1 := blk_cell h.bt 0
  have h2 := blk_cell h.bb 0
  simp at h1 h2
  exact ⟨h1, h2, blk_lt h.bt, blk_lt h.bb⟩
theorem T9.init (w : World) (a b : Value) : T9 w ((w.alloc (.cells #[a] 59 (0, 0))).alloc (.cells #[b] 59 (0, 0))) a b :=
  ⟨blk_alloc (blk_new (by simp)) _, blk_new (by simp), ((Below.refl _ _).alloc (Nat.le_refl _) _).alloc (by simp) _⟩
end
theorem few22_b {ok : Nat → Prop} {A : Option Addr} {n c : Nat} {l : List Nd} (hn : n = l.length) {w : World} (h : Rds El.nd w ok (.slice A n c) l) : ∀ W, Below w.heap.size w W → Calls Try.prog 31 #[.agg #[.slice A n c]] W fun e w' => ∃ b : Bool, e = .returned (.bool b) ∧ (b = true → Few22 l) ∧ Below W.heap.size W w' := by
  subst hn
  exact fun W hB => few22_any l W (h.below hB)
set_option maxRecDepth 20000 in
set_option maxHeartbeats 16000000 in
theorem stepsTake_few {okt okb : Nat → Prop} {A B : Option Addr} {c bc n bn : Nat} (l b : List Nd) (leaf : Int) (w : World) (hn : n = l.length) (hbn : bn = b.length) (h : Rds El.nd w okt (.slice A n c) l) (hb : Rds El.nd w okb (.slice B bn bc) b) (hf : ¬ (Few22 l ∧ Few22 b)) :
    Calls Try.prog 9 #[.agg #[.slice A n c], .int .i64 leaf, .agg #[.slice B bn bc]] w (SaysB true w) := by
  have HF0 := hide (few22_b hn h)
  have HF2 := hide (few22_b hbn hb)
  have t0 := T9.init w (.slice A n c) (.slice B bn bc)
  have T0 := hide t0
  have HNF := hide hf
  clear hn hbn h hb hf t0
  go_enter Try.func9, Try.ntmps9
  go_wp2_with fail
  go_at_call 31
  refine (HF0.out _ T0.out.hb).mono ?_
  rintro e w1 ⟨b1, rfl, hbf, hb1⟩
  have HBF := hide hbf
  have T1 := hide (T0.out.below hb1)
  obtain ⟨c1, c2, l1, l2⟩ := T1.out.cells
  clear hb1 hbf T0
  cases b1 with
  | false =>
    go_wp2_with (go_at_call 32; refine (works22_at _ T1.out.hb).mono ?_; rintro e w9 ⟨rfl, hb9⟩; have HB9 := hide hb9; clear hb9)
    go_ret
    exact ⟨rfl, HB9.out⟩
  | true =>
    go_wp2_with fail
    go_at_call 31
    refine (HF2.out _ T1.out.hb).mono ?_
    rintro e w2 ⟨b2, rfl, hbf2, hb2⟩
    have HBF2 := hide hbf2
    have T2 := hide (T1.out.below hb2)
    clear c1 c2 l1 l2
    obtain ⟨c1, c2, l1, l2⟩ := T2.out.cells
    clear hb2 hbf2
    cases b2 with
    | false =>
      go_wp2_with (go_at_call 32; refine (works22_at _ T2.out.hb).mono ?_; rintro e w9 ⟨rfl, hb9⟩; have HB9 := hide hb9; clear hb9)
      go_ret
      exact ⟨rfl, HB9.out⟩
    | true => exact absurd ⟨HBF.out (by first | rfl | trivial), HBF2.out (by first | rfl | trivial)⟩ HNF.out
set_option maxHeartbeats 4000000 in
theorem rrow_nil (A : Option Addr) (c : Nat) (w : World) : Calls Try.prog 36 #[.agg #[.int .u8 0, .int .i64 0, .slice A 0 c]] w (GetR [] w) := by
  go_enter Try.func36, Try.ntmps36
  go_wp2
  go_ret
  exact ⟨none, 0, rfl, Rds.nil, by repeat (first | exact Below.refl _ _ | refine Below.alloc ?_ (by simp) _)⟩
set_option maxHeartbeats 4000000 in
theorem rready_nil (A : Option Addr) (c : Nat) (w : World) : Calls Try.prog 35 #[.agg #[.int .u8 0, .int .i64 0, .slice A 0 c], .int .i64 0] w (MadeI [] w) := by
  have bx := heap_alloc_new w (.cells #[.int .u8 0, .int .i64 0, .slice A 0 c] 65 (0, 0))
  have BX := hide bx
  clear bx
  go_enter Try.func35, Try.ntmps35
  go_wp2
  go_loop [1, 5, 6] (fun bv ov iv => bv = .int .i64 0 ∧ ov = .slice none 0 0 ∧ iv = .int .i64 0) (fun _ _ _ => 0)
  case atStart => exact ⟨rfl, rfl, rfl⟩
  case round =>
    obtain ⟨rfl, rfl, rfl⟩ := hrel
    go_wp2
    go_ret
    exact ⟨none, 0, rfl, Row.nil _ _ _, fun b hb => (Fp_none hb).elim, by repeat (first | exact Below.refl _ _ | refine Below.alloc ?_ (by simp) _)⟩
/-- Row, of a tree or of none. -/
theorem rrow_TN {r : Pt} (h : TN r) (hl : lenO r ≤ 500) {ok : Nat → Prop} {A : Option Addr} {c : Nat} (w : World) (hr : Rds El.pt w ok (.slice A r.kids.length c) r.kids) :
    Calls Try.prog 36 #[.agg #[.int .u8 r.op, .int .i64 r.pl, .slice A r.kids.length c]] w (GetR (encO r) w) := by
  rcases h with rfl | h
  · exact rrow_nil A c w
  · rw [lenO_RT h] at hl
    rw [encO_RT h]
    obtain ⟨op, pl, ks⟩ := r
    exact rrow_any 500 op pl ks hl (Nat.le_refl _) h ok A c ks.length w rfl hr
/-- Ready, of a tree or of none. -/
theorem rready_TN {r : Pt} (h : TN r) (hl : lenO r ≤ 500) {ok : Nat → Prop} {A : Option Addr} {c : Nat} (w : World) (hr : Rds El.pt w ok (.slice A r.kids.length c) r.kids) :
    Calls Try.prog 35 #[.agg #[.int .u8 r.op, .int .i64 r.pl, .slice A r.kids.length c], .int .i64 0] w (MadeI (readyT 0 r) w) := by
  rcases h with rfl | h
  · exact rready_nil A c w
  · rw [lenO_RT h] at hl
    obtain ⟨op, pl, ks⟩ := r
    exact rready_any 500 op pl ks hl (Nat.le_refl _) h 0 (by omega) ok A c ks.length w rfl hr
end Go.Proofs.Ytbobjecjopmnfaa
