/- What StepsTrees' first loop holds. -/
import Derived.Test.YtbobjecjopmnfaaP2
namespace Go.Proofs.Ytbobjecjopmnfaa
open Go.RowKit
open Pt (szL sz encL enc roots encL_length roots_length enc_length shift RT)
/-- The parts, and what the arguments were: two rows of the call's own, apart from each other. -/
structure Tw (w wr : World) (PB : Option Addr) (pn pc : Nat) (ps : List Pt) (WB : Option Addr) (wn wc : Nat) (ws : List (List Nd)) : Prop where
  pown : OwnP El.pt wr 65 (fun b => w.heap.size ≤ b ∧ ¬ Fp (.slice WB wn wc) b) (.slice PB pn pc) ps
  plen : pn = ps.length
  wown : OwnP (El.row El.nd) wr 61 (fun b => w.heap.size ≤ b ∧ ¬ Fp (.slice PB pn pc) b) (.slice WB wn wc) ws
  wlen : wn = ws.length
  hb : Below w.heap.size w wr
section
variable {w wr W W' : World} {PB PB' WB WB' : Option Addr} {pn pc pc' wn wc wc' : Nat} {ps : List Pt} {ws : List (List Nd)}
theorem Tw.below (h : Tw w wr PB pn pc ps WB wn wc ws) (hB : Below wr.heap.size wr W) : Tw w W PB pn pc ps WB wn wc ws :=
  ⟨h.pown.below hB, h.plen, h.wown.below hB, h.wlen, below_then h.hb hB⟩
theorem Tw.init (w : World) : Tw w w none 0 0 [] none 0 0 [] := ⟨OwnP.nil _ _ _ _, rfl, OwnP.nil _ _ _ _, rfl, Below.refl _ _⟩
/-- One part more. -/
theorem Tw.part {p : Pt} (h : Tw w W PB pn pc ps WB wn wc ws) (ho : Only (Fp (.slice PB pn pc)) W W') (hown : OwnP El.pt W' 65 (fun b => w.heap.size ≤ b ∧ ¬ Fp (.slice WB wn wc) b) (.slice PB' (pn + 1) pc') (ps ++ [p]))
    (hf : ∀ b, Fp (.slice PB' (pn + 1) pc') b → Fp (.slice PB pn pc) b ∨ W.heap.size ≤ b) : Tw w W' PB' (pn + 1) pc' (ps ++ [p]) WB wn wc ws := by
  refine ⟨hown, by rw [List.length_append, h.plen]; rfl, ?_, h.wlen, h.hb.trans (ho.below (fun b hb => (h.pown.fp b hb).1) h.hb.size)⟩
  have h3 := h.wown.mono (ok' := fun b => (w.heap.size ≤ b ∧ ¬ Fp (.slice PB pn pc) b) ∧ b < W.heap.size) (fun b h1 h2 => ⟨h1, h2⟩)
  refine (h3.only ho (fun b h1 h2 => h1.1.2 h2)).mono (fun b h1 _ => ⟨h1.1.1, fun h4 => ?_⟩)
  rcases hf b h4 with h5 | h5
  · exact h1.1.2 h5
  · exact absurd h1.2 (Nat.not_lt.2 h5)
/-- One row more. -/
theorem Tw.was {r : List Nd} (h : Tw w W PB pn pc ps WB wn wc ws) (ho : Only (Fp (.slice WB wn wc)) W W') (hown : OwnP (El.row El.nd) W' 61 (fun b => w.heap.size ≤ b ∧ ¬ Fp (.slice PB pn pc) b) (.slice WB' (wn + 1) wc') (ws ++ [r]))
    (hf : ∀ b, Fp (.slice WB' (wn + 1) wc') b → Fp (.slice WB wn wc) b ∨ W.heap.size ≤ b) : Tw w W' PB pn pc ps WB' (wn + 1) wc' (ws ++ [r]) := by
  refine ⟨?_, h.plen, hown, by rw [List.length_append, h.wlen]; rfl, h.hb.trans (ho.below (fun b hb => (h.wown.fp b hb).1) h.hb.size)⟩
  have h3 := h.pown.mono (ok' := fun b => (w.heap.size ≤ b ∧ ¬ Fp (.slice WB wn wc) b) ∧ b < W.heap.size) (fun b h1 h2 => ⟨h1, h2⟩)
  refine (h3.only ho (fun b h1 h2 => h1.1.2 h2)).mono (fun b h1 _ => ⟨h1.1.1, fun h4 => ?_⟩)
  rcases hf b h4 with h5 | h5
  · exact h1.1.2 h5
  · exact absurd h1.2 (Nat.not_lt.2 h5)
end
theorem take_all_next {rows : List (List Nd)} {i : Nat} {r : List Nd} (h : rows[i]? = some r) : (rows.take (i + 1)).all rightB = ((rows.take i).all rightB && rightB r) := by
  obtain ⟨hi, rfl⟩ := List.getElem?_eq_some_iff.1 h
  rw [List.take_succ_eq_append_getElem hi, List.all_append]
  simp
/-- The steps' Ready tells what the reference's tells. -/
theorem ready42_any {ok : Nat → Prop} {A : Option Addr} {n c : Nat} (l : List Nd) (hn : n = l.length) (w : World) (h : Rds El.nd w ok (.slice A n c) l) (hf : Fits22 l) :
    Calls Try.prog 42 #[.agg #[.slice A n c]] w (MadeI (if rightB l = true then readyT 0 (ofT l).1 else []) w) := by
  subst hn
  cases hr : rightB l with
  | false =>
    simp only [Bool.false_eq_true, if_false]
    refine ready_wrong l w h hf ?_ hr
    rcases Nat.eq_zero_or_pos l.length with h0 | h0
    · have e : l = [] := List.length_eq_zero_iff.1 h0
      rw [(rightB_iff l).2 (.inl e)] at hr
      cases hr
    · exact h0
  | true =>
    simp only [if_true]
    obtain ⟨hq, hle⟩ := ofT_right2 hr
    rcases hq with hq | hq
    · have e : l = [] := by rw [hle, hq, encO_nil]
      rw [hq]
      subst e
      exact ready_nil w
    · exact ready_right l (ofT l).1 w h hf hq (by rw [← encO_RT hq]; exact hle)
end Go.Proofs.Ytbobjecjopmnfaa
