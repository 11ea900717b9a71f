/- Leaves; append to the row of rows; what InOrder and Beside tell, by trees. -/
import Derived.Test.YtbobjecjopmnfaaP1
import Derived.Test.YtbobjecjopmnfaaNC
namespace Go.Proofs.Ytbobjecjopmnfaa
open Go.RowKit
open Pt (szL sz encL enc roots encL_length roots_length enc_length shift RT)
def leafR (op pl : Int) : List Nd := if leafB op = true then [⟨op, pl, []⟩] else []
def leafT (op pl : Int) : Pt := if leafB op = true then .mk op pl [] else Pt.nil
theorem sleaf_any (op pl : Int) (w : World) : Calls Try.prog 48 #[.int .u8 op, .int .i64 pl] w (MadeT (leafR op pl) w) := by
  unfold leafR
  cases h : leafB op with
  | true => exact leaf_yes op pl w h
  | false => exact leaf_no op pl w h
theorem leafT_TN (op pl : Int) : TN (leafT op pl) := by
  unfold leafT
  split
  · rename_i h
    simp only [leafB, Bool.and_eq_true, decide_eq_true_eq] at h
    right
    rw [RT]
    exact .inl ⟨h.1, h.2, rfl⟩
  · exact .inl rfl
theorem leafT_enc (op pl : Int) : encO (leafT op pl) = leafR op pl := by
  unfold leafT leafR
  cases h : leafB op with
  | true =>
    simp only [leafB, Bool.and_eq_true, decide_eq_true_eq] at h
    have h2 : RT (.mk op pl []) := by
      rw [RT]
      exact .inl ⟨h.1, h.2, rfl⟩
    simp only [if_true]
    rw [encO_RT h2, enc, encL, roots, List.nil_append]
  | false =>
    simp only [Bool.false_eq_true, if_false]
    exact encO_nil
theorem rleaf_any (op pl : Int) (w : World) : Calls Try.prog 49 #[.int .u8 op, .int .i64 pl] w fun e w' => e = .returned (.agg #[.int .u8 (leafT op pl).op, .int .i64 (leafT op pl).pl, .slice none 0 0]) ∧ Below w.heap.size w w' := by
  unfold leafT
  have hc : (3 ≤ op ∧ op ≤ 7 ∧ leafB op = true) ∨ (op < 3 ∧ leafB op = false) ∨ (3 ≤ op ∧ 7 < op ∧ leafB op = false) := by
    simp only [leafB, Bool.and_eq_true, Bool.and_eq_false_iff, decide_eq_true_eq, decide_eq_false_iff_not]
    omega
  rcases hc with ⟨h1, h2, h3⟩ | ⟨h1, h3⟩ | ⟨h1, h2, h3⟩
  · rw [if_pos h3]
    clear h3
    go_enter Try.func49, Try.ntmps49
    go_wp2
    refine bodyPost_ret (v := .agg #[.int .u8 op, .int .i64 pl, .slice none 0 0]) (by simp [results, Try.results49, go_sem]) rfl ?_
    exact ⟨rfl, by repeat (first | exact Below.refl _ _ | refine Below.setCell ?_ (by simp) _ | refine Below.alloc ?_ (by simp) _)⟩
  · rw [if_neg (by rw [h3]; decide)]
    clear h3
    go_enter Try.func49, Try.ntmps49
    go_wp2
    refine bodyPost_ret (v := .agg #[.int .u8 0, .int .i64 0, .slice none 0 0]) (by simp [results, Try.results49, go_sem]) rfl ?_
    exact ⟨rfl, by repeat (first | exact Below.refl _ _ | refine Below.setCell ?_ (by simp) _ | refine Below.alloc ?_ (by simp) _)⟩
  · rw [if_neg (by rw [h3]; decide)]
    clear h3
    go_enter Try.func49, Try.ntmps49
    go_wp2
    refine bodyPost_ret (v := .agg #[.int .u8 0, .int .i64 0, .slice none 0 0]) (by simp [results, Try.results49, go_sem]) rfl ?_
    exact ⟨rfl, by repeat (first | exact Below.refl _ _ | refine Below.setCell ?_ (by simp) _ | refine Below.alloc ?_ (by simp) _)⟩
theorem inf61 : (Try.prog.info? 61).map (fun i => (i.zero, i.size, i.bytes)) = some (some (.slice none 0 0), 1, 24) := by kernel_rfl
section
variable {ops : Array Oper} {rest : List Oper} {o : Oper} {a : Act} {Q : Exit → Act → World → Prop}
theorem wpList_append_was (w : World) (hgd : o.guard = none) (s x : Operand) (ho : o.op = .call { callee := .builtin .append, args := #[s, x], argTypes := #[80, 80] })
    (ok : Nat → Prop) (A : Option Addr) (n c : Nat) (xs : List (List Nd)) (hs : a.eval s = .slice A n c) (hxn : xs.length = n) (hown : OwnP (El.row El.nd) w 61 ok (.slice A n c) xs)
    (g : Nat) (TA : Option Addr) (rl tc : Nat) (row : List Nd) (hrl : row.length = rl) (hx : a.eval x = .slice (some ⟨g, 0, none⟩) 1 1) (hg : w.heap[g]? = some (.cells #[.slice TA rl tc] 61 (0, 0)))
    (hr : Rds El.nd w (fun b => ok b ∧ ¬ Fp (.slice A n c) b) (.slice TA rl tc) row) (hnew : ∀ b, w.heap.size ≤ b → ok b) (hn : n ≤ 2000000)
    (h : ∀ A' c' w', OwnP (El.row El.nd) w' 61 ok (.slice A' (n + 1) c') (xs ++ [row]) → Only (Fp (.slice A n c)) w w' → (∀ b, Fp (.slice A' (n + 1) c') b → Fp (.slice A n c) b ∨ w.heap.size ≤ b) → wpList Try.prog ops Q rest (a.put o.dst (.slice A' (n + 1) c')) w') : wpList Try.prog ops Q (o :: rest) a w := by
  subst hxn; subst hrl
  obtain ⟨css, h1, h2, h3⟩ := hown
  refine wpList_append_row (P := Try.prog) w hgd s x 80 61 ho _ 1 24 Try.underlying80 inf61 rfl (by decide) (by decide) (.slice A xs.length c) xs.length css.flatten hs h1 (fun _ => True) _ 1 [.slice TA row.length tc] hx (rd_block (cs := [.slice TA row.length tc]) hg rfl) (by intro u hu; rw [List.mem_singleton] at hu; subst hu; rfl) (by omega) ?_
  intro A' c' w' hrow honly hfp
  refine h A' c' w' (OwnP.grown (m := xs.length + 1) (ys := [row]) (dss := [[.slice TA row.length tc]]) h2 h3 (.cons ⟨TA, tc, rfl, hr⟩ .nil) ?_ (by simp) honly hfp hnew) honly hfp
  have e : ([[Value.slice TA row.length tc]] : List (List Value)).flatten = [.slice TA row.length tc] := rfl
  rw [e]
  exact hrow
end
theorem ofT_right2 {l : List Nd} (h : rightB l = true) : TN (ofT l).1 ∧ l = encO (ofT l).1 := by
  obtain ⟨h1, h2⟩ := ofT_right l
  rcases h2 h with ⟨rfl, h3⟩ | ⟨h3, h4⟩
  · exact ⟨.inl h3, by rw [h3, encO_nil]⟩
  · exact ⟨.inr h3, by rw [encO_RT h3]; exact h4⟩
theorem allR_wrong {op : Int} {rows : List (List Nd)} (h : rows.all rightB = false) : allR op rows = [] := by
  unfold allR
  rw [if_pos]
  rw [List.all_eq_false] at h
  obtain ⟨x, hx, hw⟩ := h
  rw [List.any_eq_true]
  exact ⟨x, hx, by unfold wrongB; cases h2 : rightB x <;> simp_all⟩
theorem allR_right {op : Int} (ho : op = 1 ∨ op = 2) {rows : List (List Nd)} (h : rows.all rightB = true) : allR op rows = encO (putT op (rows.map fun r => (ofT r).1)) ∧ ∀ p ∈ rows.map (fun r => (ofT r).1), TN p := by
  rw [List.all_eq_true] at h
  have htn : ∀ p ∈ rows.map (fun r => (ofT r).1), TN p := fun p hp => by
    obtain ⟨r, hr, rfl⟩ := List.mem_map.1 hp
    exact (ofT_right2 (h r hr)).1
  refine ⟨?_, htn⟩
  unfold allR
  rw [if_neg, ← putR_law ho htn, List.map_map]
  · congr 1
    symm
    conv => rhs; rw [← List.map_id rows]
    refine List.map_congr_left fun r hr => ?_
    exact (ofT_right2 (h r hr)).2.symm
  · rw [List.any_eq_true]
    rintro ⟨x, hx, hw⟩
    rw [wrongB, h x hx] at hw
    cases hw
end Go.Proofs.Ytbobjecjopmnfaa
