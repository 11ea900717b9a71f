/- A leaf that is ready is taken: all others stay, in plain Lean. -/
import Derived.Test.YtbobjecjopmnfaaH5
namespace Go.Proofs.Ytbobjecjopmnfaa
open Pt
mutual
/-- A tree's leaves: what to do, and where. -/
def lv : Pt → List (Int × Int)
  | .mk op pl ks => if 3 ≤ op then [(op, pl)] else lvL ks
def lvL : List Pt → List (Int × Int)
  | [] => []
  | p :: ps => lv p ++ lvL ps
end
theorem lvL_append : ∀ (a b : List Pt), lvL (a ++ b) = lvL a ++ lvL b
  | [], b => rfl
  | p :: a, b => by rw [List.cons_append, lvL, lvL, lvL_append a b, List.append_assoc]
theorem lvL_pieces {op : Int} (ho : op = 1 ∨ op = 2) : ∀ (ps : List Pt), (∀ p ∈ ps, TN p) → lvL (pieces op ps) = lvL ps
  | [], _ => rfl
  | p :: ps, h => by
    have ih := lvL_pieces ho ps (fun q hq => h q (.tail _ hq))
    have e : pieces op (p :: ps) = (if p.op = op then p.kids else if p.op ≠ 0 then [p] else []) ++ pieces op ps := by simp [pieces]
    rw [e, lvL_append, ih, lvL]
    congr 1
    split
    · rename_i e
      obtain ⟨o, l, ks⟩ := p
      have e : o = op := e
      rw [lv, if_neg (by omega)]
      rfl
    · split
      · simp [lvL]
      · rename_i h0
        rcases h p (.head _) with rfl | hr
        · rfl
        · exact absurd hr.op_ne h0
theorem lv_putK {op : Int} (ho : op = 1 ∨ op = 2) : ∀ (ks : List Pt), lv (putK op ks) = lvL ks
  | [] => rfl
  | [p] => by simp [putK, lvL]
  | p :: q :: ks => by
    show lv (.mk op 0 (p :: q :: ks)) = _
    rw [lv, if_neg (by omega)]
theorem lv_putT {op : Int} (ho : op = 1 ∨ op = 2) {ps : List Pt} (h : ∀ p ∈ ps, TN p) : lv (putT op ps) = lvL ps := by
  unfold putT
  rw [lv_putK ho, lvL_pieces ho ps h]
/-- The leaves in a row. -/
def leavesR (l : List Nd) : List (Int × Int) := (l.filter fun n => decide (3 ≤ n.op)).map fun n => (n.op, n.pl)
theorem leavesR_append (a b : List Nd) : leavesR (a ++ b) = leavesR a ++ leavesR b := by simp [leavesR]
mutual
theorem leavesR_enc : ∀ (p : Pt) (off : Nat), RT p → leavesR (enc off p) = lv p
  | .mk op pl ks, off, h => by
    rw [enc, leavesR_append, lv]
    rcases RT.cases h with ⟨h1, _, rfl⟩ | ⟨h1, rfl, h3, h4⟩
    · rw [if_pos h1]
      simp [encL, leavesR, h1]
    · rw [if_neg (by omega), leavesR_encL ks off (fun q hq => (h4 q hq).1)]
      have : ¬ (3 : Int) ≤ op := by omega
      simp [leavesR, this]
theorem leavesR_encL : ∀ (ps : List Pt) (off : Nat), RTs ps → leavesR (encL off ps) = lvL ps
  | [], _, _ => rfl
  | p :: ps, off, h => by rw [encL, leavesR_append, lvL, leavesR_enc p off (h p (.head _)), leavesR_encL ps _ (fun q hq => h q (.tail _ hq))]
end
mutual
/-- Some leaf is ready. -/
theorem readyT_ne : ∀ (p : Pt) (off : Nat), RT p → readyT off p ≠ []
  | .mk op pl ks, off, h => by
    rw [readyT]
    rcases RT.cases h with ⟨h1, _, rfl⟩ | ⟨h1, rfl, h3, h4⟩
    · rw [if_pos h1]; simp
    · rw [if_neg (by omega)]
      exact readyL_ne _ ks off (by omega) (fun q hq => (h4 q hq).1)
theorem readyL_ne (all : Bool) : ∀ (ps : List Pt) (off : Nat), 0 < ps.length → RTs ps → readyL all off ps ≠ []
  | [], _, h, _ => absurd h (by simp)
  | p :: ps, off, _, h => by
    rw [readyL]
    intro e
    exact readyT_ne p off (h p (.head _)) (List.append_eq_nil_iff.1 e).1
end
mutual
/-- What is ready is a leaf; taken, all other ones stay. -/
theorem take_leaf : ∀ (p : Pt) (off : Nat) (leaf : Int), RT p → leaf ∈ readyT off p →
    ∃ n : Nd, (enc off p)[(leaf - off).toNat]? = some n ∧ 3 ≤ n.op ∧ (lv p).Perm ((n.op, n.pl) :: lv (anewT off leaf Pt.nil p))
  | .mk op pl ks, off, leaf, h, hl => by
    rw [readyT] at hl
    rcases RT.cases h with ⟨h1, _, rfl⟩ | ⟨h1, rfl, h3, h4⟩
    · rw [if_pos h1, List.mem_singleton] at hl
      subst hl
      refine ⟨⟨op, pl, []⟩, by simp [enc, encL, roots], h1, ?_⟩
      rw [anewT, if_pos (by rw [sz, szL]; omega), lv, if_pos h1]
      exact List.Perm.refl _
    · rw [if_neg (by omega)] at hl
      have hin := readyL_in (decide (op = 2)) ks off (fun q hq => (h4 q hq).1) leaf hl
      obtain ⟨n, a, b, c⟩ := takeL_leaf (decide (op = 2)) ks off leaf (fun q hq => (h4 q hq).1) hl
      refine ⟨n, ?_, b, ?_⟩
      · rw [enc, List.getElem?_append_left (by rw [encL_length]; omega)]
        exact a
      · rw [anewT, if_neg (by rw [sz]; omega), if_neg (by omega), lv_putT h1 (anewL_TN ks off leaf Pt.nil (fun q hq => (h4 q hq).1) (.inl rfl)), lv, if_neg (by omega)]
        exact c
theorem takeL_leaf (all : Bool) : ∀ (ps : List Pt) (off : Nat) (leaf : Int), RTs ps → leaf ∈ readyL all off ps →
    ∃ n : Nd, (encL off ps)[(leaf - off).toNat]? = some n ∧ 3 ≤ n.op ∧ (lvL ps).Perm ((n.op, n.pl) :: lvL (anewL off leaf Pt.nil ps))
  | [], _, _, _, hl => by cases hl
  | p :: ps, off, leaf, h, hl => by
    have hp := sz_pos p
    rw [readyL] at hl
    rcases List.mem_append.1 hl with hl | hl
    · have hin := readyT_in p off (h p (.head _)) leaf hl
      obtain ⟨n, a, b, c⟩ := take_leaf p off leaf (h p (.head _)) hl
      refine ⟨n, ?_, b, ?_⟩
      · rw [encL, List.getElem?_append_left (by rw [enc_length]; omega)]
        exact a
      · rw [anewL, lvL, lvL, anewL_far ps _ leaf Pt.nil (fun q hq => h q (.tail _ hq)) (by omega)]
        exact c.append_right _
    · split at hl
      · have hin := readyL_in all ps (off + sz p) (fun q hq => h q (.tail _ hq)) leaf hl
        obtain ⟨n, a, b, c⟩ := takeL_leaf all ps (off + sz p) leaf (fun q hq => h q (.tail _ hq)) hl
        refine ⟨n, ?_, b, ?_⟩
        · rw [encL, List.getElem?_append_right (by rw [enc_length]; omega), enc_length]
          rw [show (leaf - (off : Int)).toNat - sz p = (leaf - ((off + sz p : Nat) : Int)).toNat by omega]
          exact a
        · rw [anewL, lvL, lvL, anewT_far p off leaf Pt.nil (h p (.head _)) (by omega)]
          exact (List.Perm.append_left (lv p) c).trans List.perm_middle
      · cases hl
end
end Go.Proofs.Ytbobjecjopmnfaa
