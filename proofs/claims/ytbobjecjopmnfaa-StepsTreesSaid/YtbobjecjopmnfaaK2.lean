/- The walks of Clone (of integers), Leaf, root. -/
import Derived.Test.YtbobjecjopmnfaaK1
import Derived.Deep.DrawnRows
namespace Go.Proofs.Ytbobjecjopmnfaa
open Go.RowKit
/-- A row of integers of the call's own comes back. -/
def MadeI (l : List Int) (w : World) (e : Ending) (w' : World) : Prop := ∃ A c, e = .returned (.slice A l.length c) ∧ Row w' 3 1 (.slice A l.length c) l.length (ints l) ∧ (∀ b, Fp (.slice A l.length c) b → w.heap.size ≤ b) ∧ Below w.heap.size w w'
/-- A tree of the call's own comes back. -/
def MadeT (l : List Nd) (w : World) (e : Ending) (w' : World) : Prop := ∃ A c, e = .returned (.agg #[.slice A l.length c]) ∧ OwnP El.ndO w' 76 (fun b => w.heap.size ≤ b) (.slice A l.length c) l ∧ Below w.heap.size w w'
set_option maxHeartbeats 400000 in
theorem iclone_any {ok : Nat → Prop} {A : Option Addr} {c : Nat} (l : List Int) (w : World) (h : Rd w ok 1 (.slice A l.length c) l.length (ints l)) (hl : l.length ≤ 1000000) :
    Calls Try.prog 81 #[.slice A l.length c] w (MadeI l w) := by
  have qT : ∀ (w : World) (a : Option Addr) (n c n' c' : Nat), (binOp .eql 36 (.slice a n c) (.slice none n' c')).run Try.prog w = .ok (.bool a.isNone) w := fun w a n c n' c' => Lib.run_eql_slice_nil w _ _ a n c n' c' Try.underlying36
  have H := hide h
  clear h
  cases A with
  | none =>
    have h0 := H.out.none_
    have hl0 : l = [] := List.eq_nil_of_length_eq_zero h0
    subst hl0
    go_enter Try.func81, Try.ntmps81
    go_wp2
    go_ret
    exact ⟨none, 0, rfl, Row.nil _ _ _, fun b hb => (Fp_none hb).elim, Below.refl _ _⟩
  | some a =>
    go_enter Try.func81, Try.ntmps81
    go_wp2_with (at_builtin; refine wpList_append_row _ rfl (.tmp 5) (.tmp 6) 36 3 rfl _ 1 8 Try.underlying36 inf3 rfl (by decide) (by decide) (.slice (some ⟨w.heap.size, 0, none⟩) 0 0) 0 [] rfl (Row.empty _ _ _ _) ok (.slice (some a) l.length c) l.length (ints l) rfl (H.out.below ((Below.refl _ _).alloc (Nat.le_refl _) _)) ints_one (by omega) ?_; intro A' c' w1 hrow' honly hfp; have HR := hide hrow'; have HY := hide honly; have HF := hide hfp; clear hrow' honly hfp)
    go_ret
    have h1 : Below w.heap.size w (w.alloc (.cells #[] 3)) := (Below.refl _ _).alloc (Nat.le_refl _) _
    refine ⟨A', c', by simp, by simpa using HR.out, fun b hb => ?_, below_then h1 (HY.out.below (B := (w.alloc (.cells #[] 3)).heap.size) (fun b hb => (Fp_zero hb).elim) (Nat.le_refl _))⟩
    rcases HF.out b (by simpa using hb) with h2 | h2
    · exact (Fp_zero h2).elim
    · exact Nat.le_trans h1.size h2
theorem leaf_row {w : World} {g : Nat} {cs : List Value} {e : TypeId} {sz : Nat} (h : w.heap[g]? = some (.cells cs.toArray e (0, 0))) (hs : cs.length = sz) : Row w e sz (.slice (some ⟨g, 0, none⟩) 1 1) 1 cs := by
  refine ⟨by rw [hs, Nat.one_mul], _, _, rfl, Nat.le_refl _, fun _ => ⟨g, 0, cs.toArray, by simp, h, by unfold maxLen; omega, by simp [hs], ?_⟩⟩
  simp [← hs]
def leafB (op : Int) : Bool := decide (3 ≤ op) && decide (op ≤ 7)
set_option maxHeartbeats 400000 in
theorem leaf_yes (op pl : Int) (w : World) (h : leafB op = true) : Calls Try.prog 48 #[.int .u8 op, .int .i64 pl] w (MadeT [⟨op, pl, []⟩] w) := by
  simp only [leafB, Bool.and_eq_true, decide_eq_true_eq] at h
  obtain ⟨h1, h2⟩ := h
  have k1 : ¬ op < 3 := by omega
  have k2 : ¬ 7 < op := by omega
  go_enter Try.func48, Try.ntmps48
  go_wp2
  refine bodyPost_ret (v := .agg #[.slice (some ⟨w.heap.size + 1, 0, none⟩) 1 1]) (by simp [results, Try.results48, go_sem]) rfl ⟨_, _, rfl, ?_, ?_⟩
  · refine ⟨[[.int .u8 op, .int .i64 pl, .slice none 0 0]], leaf_row (blk_new (by simp)) rfl, ?_, .cons ⟨_, rfl, Row.nil _ _ _, fun b hb => (Fp_none hb).elim⟩ .nil⟩
    rintro b ⟨a, _, _, he, _, rfl⟩
    injection he with he
    injection he with he
    subst he
    show w.heap.size ≤ w.heap.size + 1
    omega
  · exact ((Below.refl _ _).alloc (Nat.le_refl _) _).alloc (by simp) _
set_option maxHeartbeats 400000 in
theorem leaf_no (op pl : Int) (w : World) (h : leafB op = false) : Calls Try.prog 48 #[.int .u8 op, .int .i64 pl] w (MadeT [] w) := by
  simp only [leafB, Bool.and_eq_false_iff, decide_eq_false_iff_not] at h
  have fin : MadeT [] w (.returned (.agg #[.slice none 0 0])) (w.alloc (.cells #[.slice none 0 0] 59)) := ⟨none, 0, rfl, OwnP.nil _ _ _ _, (Below.refl _ _).alloc (Nat.le_refl _) _⟩
  have HF := hide fin
  clear fin
  by_cases h1 : op < 3
  · clear h
    go_enter Try.func48, Try.ntmps48
    go_wp2
    exact bodyPost_ret (v := .agg #[.slice none 0 0]) (by simp [results, Try.results48, go_sem]) rfl HF.out
  · have h2 : 7 < op := by omega
    clear h
    go_enter Try.func48, Try.ntmps48
    go_wp2
    exact bodyPost_ret (v := .agg #[.slice none 0 0]) (by simp [results, Try.results48, go_sem]) rfl HF.out
/-- A node comes back, whose parts' row is read. -/
def GotN (n : Nd) (ok : Nat → Prop) (w : World) (e : Ending) (w' : World) : Prop := ∃ K kc, e = .returned (.agg #[.int .u8 n.op, .int .i64 n.pl, .slice K n.kids.length kc]) ∧ Rds El.int w ok (.slice K n.kids.length kc) n.kids ∧ Below w.heap.size w w'
set_option maxHeartbeats 400000 in
theorem root_any {ok : Nat → Prop} {A : Option Addr} {c : Nat} (l : List Nd) (n : Nd) (w : World) (h : Rds El.nd w ok (.slice A l.length c) l) (hl : l.length ≤ 1000000) (hn : l.getLast? = some n) :
    Calls Try.prog 82 #[.agg #[.slice A l.length c]] w (GotN n ok w) := by
  obtain ⟨m, hm, hx⟩ : ∃ m, l.length = m + 1 ∧ l[m]? = some n := by
    cases l with
    | nil => cases hn
    | cons a t => exact ⟨t.length, rfl, by rw [List.getLast?_eq_getElem?] at hn; simpa using hn⟩
  have hB : Below w.heap.size w ((w.alloc (.cells #[.slice A l.length c] 59)).alloc (.cells #[.int .u8 0, .int .i64 0, .slice none 0 0] 76)) := ((Below.refl _ _).alloc (Nat.le_refl _) _).alloc (by simp) _
  obtain ⟨ad, K, kc, hA, x0, x1, x2, hk⟩ := h.nd_at hB hx
  have HBB := hide hB
  have HK := hide hk
  clear h hk hx hn hB
  rw [hm] at x0 x1 x2 hl HBB ⊢
  subst hA
  clear hm
  go_enter Try.func82, Try.ntmps82
  go_wp2
  exact bodyPost_ret (v := .agg #[.int .u8 n.op, .int .i64 n.pl, .slice K n.kids.length kc]) (by simp [results, Try.results82, go_sem]) rfl ⟨K, kc, rfl, HK.out, ((Below.refl _ _).alloc (Nat.le_refl _) _).alloc (by simp) _⟩
end Go.Proofs.Ytbobjecjopmnfaa
