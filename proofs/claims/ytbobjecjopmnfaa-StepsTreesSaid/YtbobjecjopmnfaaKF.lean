/- Sums over leaves, in plain Lean. -/
import Derived.Test.YtbobjecjopmnfaaKA
namespace Go.Proofs.Ytbobjecjopmnfaa
open Go.RowKit
open Pt (szL sz encL enc roots encL_length roots_length enc_length shift RT)
def sum1 : List (Int × Int) → Int
  | [] => 0
  | x :: l => x.1 + sum1 l
def sum2 : List (Int × Int) → Int
  | [] => 0
  | x :: l => x.2 + sum2 l
theorem sum1_append : ∀ (a b : List (Int × Int)), sum1 (a ++ b) = sum1 a + sum1 b
  | [], b => by simp [sum1]
  | x :: a, b => by rw [List.cons_append, sum1, sum1, sum1_append a b]; omega
theorem sum2_append : ∀ (a b : List (Int × Int)), sum2 (a ++ b) = sum2 a + sum2 b
  | [], b => by simp [sum2]
  | x :: a, b => by rw [List.cons_append, sum2, sum2, sum2_append a b]; omega
theorem sum1_perm {a b : List (Int × Int)} (h : a.Perm b) : sum1 a = sum1 b := by
  induction h with
  | nil => rfl
  | cons x _ ih => rw [sum1, sum1, ih]
  | swap x y l => simp only [sum1]; omega
  | trans _ _ h1 h2 => rw [h1, h2]
theorem sum2_perm {a b : List (Int × Int)} (h : a.Perm b) : sum2 a = sum2 b := by
  induction h with
  | nil => rfl
  | cons x _ ih => rw [sum2, sum2, ih]
  | swap x y l => simp only [sum2]; omega
  | trans _ _ h1 h2 => rw [h1, h2]
/-- A word that is a sum, but for a multiple of 2^64. -/
def Word (s t : Int) : Prop := (∃ k : Int, s = t + k * 18446744073709551616) ∧ -9223372036854775808 ≤ s ∧ s < 9223372036854775808
theorem Word.zero : Word 0 0 := ⟨⟨0, by omega⟩, by omega, by omega⟩
theorem Word.is0 {s : Int} (h : Word s 0) : s = 0 := by
  obtain ⟨⟨k, h1⟩, h2, h3⟩ := h
  omega
theorem Word.add {s t x : Int} (h : Word s t) : Word (wrap64 (s + x)) (t + x) := by
  obtain ⟨⟨k, h1⟩, h2, h3⟩ := h
  have h4 : ∃ m : Int, wrap64 (s + x) = s + x + m * 18446744073709551616 ∧ -9223372036854775808 ≤ wrap64 (s + x) ∧ wrap64 (s + x) < 9223372036854775808 := ⟨-((s + x + 9223372036854775808) / 18446744073709551616), by unfold wrap64; omega⟩
  obtain ⟨m, h4, h5, h6⟩ := h4
  exact ⟨⟨k + m, by rw [h4, h1]; omega⟩, h5, h6⟩
theorem Word.sub {s t x : Int} (h : Word s t) : Word (wrap64 (s - x)) (t - x) := by
  have := Word.add (x := -x) h
  rwa [← Int.sub_eq_add_neg, ← Int.sub_eq_add_neg] at this
theorem leavesR_next {l : List Nd} {j : Nat} {x : Nd} (h : l[j]? = some x) : leavesR (l.take (j + 1)) = leavesR (l.take j) ++ (if 3 ≤ x.op then [(x.op, x.pl)] else []) := by
  obtain ⟨hj, rfl⟩ := List.getElem?_eq_some_iff.1 h
  rw [List.take_succ_eq_append_getElem hj, leavesR_append]
  congr 1
  unfold leavesR
  by_cases h3 : 3 ≤ l[j].op
  · simp [h3]
  · simp [h3]
mutual
theorem enc_ops : ∀ (p : Pt) (off : Nat), RT p → ∀ n ∈ enc off p, 1 ≤ n.op ∧ n.op ≤ 7
  | .mk op pl ks, off, h, n, hn => by
    rw [enc] at hn
    rcases RT.cases h with ⟨h1, h2, rfl⟩ | ⟨h1, rfl, h3, h4⟩
    · simp only [encL, List.nil_append, List.mem_singleton] at hn
      subst hn
      exact ⟨by show 1 ≤ op; omega, h2⟩
    · rcases List.mem_append.1 hn with hn | hn
      · exact encL_ops ks off (fun q hq => (h4 q hq).1) n hn
      · rw [List.mem_singleton] at hn
        subst hn
        exact ⟨by show 1 ≤ op; omega, by show op ≤ 7; omega⟩
theorem encL_ops : ∀ (ps : List Pt) (off : Nat), RTs ps → ∀ n ∈ encL off ps, 1 ≤ n.op ∧ n.op ≤ 7
  | [], _, _, n, hn => by cases hn
  | p :: ps, off, h, n, hn => by
    rw [encL] at hn
    rcases List.mem_append.1 hn with hn | hn
    · exact enc_ops p off (h p (.head _)) n hn
    · exact encL_ops ps _ (fun q hq => h q (.tail _ hq)) n hn
end
theorem encO_ops {q : Pt} (h : TN q) : ∀ n ∈ encO q, 1 ≤ n.op ∧ n.op ≤ 7 := by
  intro n hn
  rcases h with rfl | h
  · cases hn
  · rw [encO_RT h] at hn
    exact enc_ops q 0 h n hn
theorem lv_encO {q : Pt} (h : TN q) : leavesR (encO q) = lv q := by
  rcases h with rfl | h
  · rfl
  · rw [encO_RT h, leavesR_enc q 0 h]
theorem sum1_bound : ∀ {l : List (Int × Int)}, (∀ x ∈ l, 0 ≤ x.1 ∧ x.1 ≤ 7) → 0 ≤ sum1 l ∧ sum1 l ≤ 7 * l.length
  | [], _ => by simp [sum1]
  | x :: l, h => by
    have h1 := h x (.head _)
    have h2 := sum1_bound (l := l) fun y hy => h y (.tail _ hy)
    rw [sum1, List.length_cons]
    omega
theorem leavesR_length (l : List Nd) : (leavesR l).length ≤ l.length := by
  unfold leavesR
  rw [List.length_map]
  exact List.length_filter_le _ _
theorem leavesR_ops {l : List Nd} (h : ∀ n ∈ l, 1 ≤ n.op ∧ n.op ≤ 7) : ∀ x ∈ leavesR l, 0 ≤ x.1 ∧ x.1 ≤ 7 := by
  intro x hx
  obtain ⟨n, hn, rfl⟩ := List.mem_map.1 hx
  have := h n (List.mem_filter.1 hn).1
  exact ⟨by show 0 ≤ n.op; omega, this.2⟩
/-- A leaf that is ready is taken from a tree. -/
theorem take_one {q : Pt} {leaf : Int} (hq : RT q) (hl : leaf ∈ readyT 0 q) : ∃ (i : Nat) (n : Nd), leaf = i ∧ (encO q)[i]? = some n ∧ 3 ≤ n.op ∧ TN (anewT 0 leaf Pt.nil q) ∧ lenO (anewT 0 leaf Pt.nil q) ≤ lenO q ∧
    (lv q).length = (lv (anewT 0 leaf Pt.nil q)).length + 1 ∧ sum1 (lv q) = n.op + sum1 (lv (anewT 0 leaf Pt.nil q)) ∧ sum2 (lv q) = n.pl + sum2 (lv (anewT 0 leaf Pt.nil q)) := by
  have hin := readyT_in q 0 hq leaf hl
  obtain ⟨n, h1, h2, h3⟩ := take_leaf q 0 leaf hq hl
  refine ⟨leaf.toNat, n, by omega, ?_, h2, anewT_TN q 0 leaf Pt.nil hq (.inl rfl), ?_, ?_, ?_, ?_⟩
  · rw [encO_RT hq]
    rwa [show (leaf - ((0 : Nat) : Int)).toNat = leaf.toNat by congr 1; omega] at h1
  · have h4 := anewT_len q 0 leaf Pt.nil hq (.inl rfl)
    have h5 : lenO Pt.nil = 0 := rfl
    rw [lenO_RT hq]
    rw [h5] at h4
    split at h4 <;> omega
  · rw [h3.length_eq]
    rfl
  · rw [sum1_perm h3]
    rfl
  · rw [sum2_perm h3]
    rfl
end Go.Proofs.Ytbobjecjopmnfaa
