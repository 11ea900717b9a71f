/- Leaves that are ready; a tree in place of one, in plain Lean. -/
import Derived.Test.YtbobjecjopmnfaaH4
namespace Go.Proofs.Ytbobjecjopmnfaa
open Pt
mutual
/-- The places of the leaves that are ready; off nodes stand ahead. -/
def readyT (off : Nat) : Pt → List Int
  | .mk op _ ks => if 3 ≤ op then [(off : Int)] else readyL (decide (op = 2)) off ks
/-- all: of all trees; else of the first one. -/
def readyL (all : Bool) (off : Nat) : List Pt → List Int
  | [] => []
  | p :: ps => readyT off p ++ (if all = true then readyL all (off + sz p) ps else [])
end
mutual
/-- Take, as the reference has it: by places that count from the tree's own first node. -/
def takeT (leaf : Int) (by_ : Pt) : Pt → Pt
  | .mk op _ ks => if 3 ≤ op then by_ else putT op (takeL leaf by_ ks)
def takeL (leaf : Int) (by_ : Pt) : List Pt → List Pt
  | [] => []
  | p :: ps => (if 0 ≤ leaf ∧ leaf < (sz p : Int) then takeT leaf by_ p else p) :: takeL (leaf - sz p) by_ ps
end
mutual
/-- Take, as steps has it: the whole tree is made anew, by places in the row. -/
def anewT (off : Nat) (leaf : Int) (by_ : Pt) : Pt → Pt
  | .mk op pl ks => if ((off + sz (.mk op pl ks) : Nat) - 1 : Int) = leaf then by_ else if ks.length = 0 then .mk op pl [] else putT op (anewL off leaf by_ ks)
def anewL (off : Nat) (leaf : Int) (by_ : Pt) : List Pt → List Pt
  | [] => []
  | p :: ps => anewT off leaf by_ p :: anewL (off + sz p) leaf by_ ps
end
theorem RT.cases {op pl : Int} {ks : List Pt} (h : RT (.mk op pl ks)) : (3 ≤ op ∧ op ≤ 7 ∧ ks = []) ∨ ((op = 1 ∨ op = 2) ∧ pl = 0 ∧ 2 ≤ ks.length ∧ ∀ q ∈ ks, RT q ∧ q.op ≠ op) := by
  rw [RT] at h
  rcases h with h | ⟨a, b, c, d⟩
  · exact .inl h
  · exact .inr ⟨a, b, c, RTL_iff.1 d⟩
mutual
/-- Ready leaves lie in the tree. -/
theorem readyT_in : ∀ (p : Pt) (off : Nat), RT p → ∀ r ∈ readyT off p, (off : Int) ≤ r ∧ r < off + sz p
  | .mk op pl ks, off, h, r, hr => by
    rw [readyT] at hr
    split at hr
    · rw [List.mem_singleton] at hr
      have := sz_pos (.mk op pl ks)
      omega
    · rename_i h3
      rcases RT.cases h with ⟨h1, _⟩ | ⟨_, _, _, h4⟩
      · omega
      · have := readyL_in (decide (op = 2)) ks off (fun q hq => (h4 q hq).1) r hr
        rw [sz]
        omega
theorem readyL_in (all : Bool) : ∀ (ps : List Pt) (off : Nat), RTs ps → ∀ r ∈ readyL all off ps, (off : Int) ≤ r ∧ r < off + szL ps
  | [], _, _, r, hr => by cases hr
  | p :: ps, off, h, r, hr => by
    rw [readyL] at hr
    rw [szL]
    rcases List.mem_append.1 hr with hr | hr
    · have := readyT_in p off (h p (.head _)) r hr
      omega
    · split at hr
      · have := readyL_in all ps (off + sz p) (fun q hq => h q (.tail _ hq)) r hr
        omega
      · cases hr
end
mutual
/-- What lies elsewhere stays as it is. -/
theorem anewT_far : ∀ (p : Pt) (off : Nat) (leaf : Int) (b : Pt), RT p → (leaf < off ∨ (off + sz p : Int) ≤ leaf) → anewT off leaf b p = p
  | .mk op pl ks, off, leaf, b, h, hl => by
    have hp := sz_pos (.mk op pl ks)
    rw [anewT, if_neg (by omega)]
    rcases RT.cases h with ⟨_, _, rfl⟩ | ⟨_, rfl, h3, h4⟩
    · simp
    · rw [if_neg (by omega), anewL_far ks off leaf b (fun q hq => (h4 q hq).1) (by rw [sz] at hl; omega)]
      exact putT_kids h4 h3
theorem anewL_far : ∀ (ps : List Pt) (off : Nat) (leaf : Int) (b : Pt), RTs ps → (leaf < off ∨ (off + szL ps : Int) ≤ leaf) → anewL off leaf b ps = ps
  | [], _, _, _, _, _ => rfl
  | p :: ps, off, leaf, b, h, hl => by
    rw [szL] at hl
    rw [anewL, anewT_far p off leaf b (h p (.head _)) (by omega), anewL_far ps (off + sz p) leaf b (fun q hq => h q (.tail _ hq)) (by omega)]
end
theorem takeL_far : ∀ (ps : List Pt) (leaf : Int) (b : Pt), leaf < 0 ∨ (szL ps : Int) ≤ leaf → takeL leaf b ps = ps
  | [], _, _, _ => rfl
  | p :: ps, leaf, b, hl => by
    have hp := sz_pos p
    rw [szL] at hl
    rw [takeL, if_neg (by omega), takeL_far ps _ b (by omega)]
mutual
/-- The two ways of taking are one, at a leaf that is ready. -/
theorem take_anew : ∀ (p : Pt) (off : Nat) (leaf : Int) (b : Pt), RT p → leaf ∈ readyT off p → anewT off leaf b p = takeT (leaf - off) b p
  | .mk op pl ks, off, leaf, b, h, hl => by
    rw [readyT] at hl
    rw [anewT, takeT]
    rcases RT.cases h with ⟨h1, _, rfl⟩ | ⟨h1, rfl, h3, h4⟩
    · rw [if_pos h1, List.mem_singleton] at hl
      rw [if_pos (by rw [sz, szL]; omega), if_pos h1]
    · rw [if_neg (by omega)] at hl
      have hin := readyL_in (decide (op = 2)) ks off (fun q hq => (h4 q hq).1) leaf hl
      rw [if_neg (by rw [sz]; omega), if_neg (by omega), if_neg (by omega), takeL_anew (decide (op = 2)) ks off leaf b (fun q hq => (h4 q hq).1) hl]
theorem takeL_anew (all : Bool) : ∀ (ps : List Pt) (off : Nat) (leaf : Int) (b : Pt), RTs ps → leaf ∈ readyL all off ps → anewL off leaf b ps = takeL (leaf - off) b ps
  | [], _, _, _, _, hl => by cases hl
  | p :: ps, off, leaf, b, h, hl => by
    have hp := sz_pos p
    rw [readyL] at hl
    rw [anewL, takeL]
    rcases List.mem_append.1 hl with hl | hl
    · have hin := readyT_in p off (h p (.head _)) leaf hl
      rw [if_pos (by omega), take_anew p off leaf b (h p (.head _)) hl, anewL_far ps _ leaf b (fun q hq => h q (.tail _ hq)) (by omega), takeL_far ps _ b (by omega)]
    · split at hl
      · have hin := readyL_in all ps (off + sz p) (fun q hq => h q (.tail _ hq)) leaf hl
        rw [if_neg (by omega), anewT_far p off leaf b (h p (.head _)) (by omega), takeL_anew all ps (off + sz p) leaf b (fun q hq => h q (.tail _ hq)) hl]
        congr 2
        omega
      · cases hl
end
mutual
theorem anewT_TN : ∀ (p : Pt) (off : Nat) (leaf : Int) (b : Pt), RT p → TN b → TN (anewT off leaf b p)
  | .mk op pl ks, off, leaf, b, h, hb => by
    rw [anewT]
    split
    · exact hb
    · rcases RT.cases h with ⟨_, _, rfl⟩ | ⟨h1, rfl, h3, h4⟩
      · simp only [List.length_nil, if_true]
        exact .inr h
      · rw [if_neg (by omega)]
        exact putT_TN h1 (anewL_TN ks off leaf b (fun q hq => (h4 q hq).1) hb)
theorem anewL_TN : ∀ (ps : List Pt) (off : Nat) (leaf : Int) (b : Pt), RTs ps → TN b → ∀ q ∈ anewL off leaf b ps, TN q
  | [], _, _, _, _, _, q, hq => by cases hq
  | p :: ps, off, leaf, b, h, hb, q, hq => by
    rw [anewL] at hq
    rcases List.mem_cons.1 hq with rfl | hq
    · exact anewT_TN p off leaf b (h p (.head _)) hb
    · exact anewL_TN ps (off + sz p) leaf b (fun q hq => h q (.tail _ hq)) hb q hq
end
end Go.Proofs.Ytbobjecjopmnfaa
