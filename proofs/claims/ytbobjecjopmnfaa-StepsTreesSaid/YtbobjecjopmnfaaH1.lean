/- Trees of microsteps, and their rows, in plain Lean. -/
namespace Go.Proofs.Ytbobjecjopmnfaa
structure Nd where
  op : Int
  pl : Int
  kids : List Int
deriving DecidableEq
inductive Pt where
  | mk (op pl : Int) (kids : List Pt)
namespace Pt
def op : Pt → Int | .mk o _ _ => o
def pl : Pt → Int | .mk _ p _ => p
def kids : Pt → List Pt | .mk _ _ k => k
def nil : Pt := .mk 0 0 []
mutual
/-- How many nodes a tree has (one that is not nothing). -/
def sz : Pt → Nat | .mk _ _ kids => 1 + szL kids
def szL : List Pt → Nat
  | [] => 0
  | p :: ps => sz p + szL ps
end
/-- The places of trees' last nodes, the first one beginning at off. -/
def roots (off : Nat) : List Pt → List Int
  | [] => []
  | p :: ps => ((off + sz p : Nat) - 1 : Int) :: roots (off + sz p) ps
mutual
/-- A tree's row, beginning at off. -/
def enc (off : Nat) : Pt → List Nd
  | .mk op pl kids => encL off kids ++ [⟨op, pl, roots off kids⟩]
def encL (off : Nat) : List Pt → List Nd
  | [] => []
  | p :: ps => enc off p ++ encL (off + sz p) ps
end
mutual
/-- A right tree. -/
def RT : Pt → Prop
  | .mk op pl kids => (3 ≤ op ∧ op ≤ 7 ∧ kids = []) ∨ ((op = 1 ∨ op = 2) ∧ pl = 0 ∧ 2 ≤ kids.length ∧ RTL op kids)
def RTL (o : Int) : List Pt → Prop
  | [] => True
  | p :: ps => RT p ∧ p.op ≠ o ∧ RTL o ps
end
theorem RTL_iff {o : Int} : ∀ {ps : List Pt}, RTL o ps ↔ ∀ p ∈ ps, RT p ∧ p.op ≠ o
  | [] => by simp [RTL]
  | p :: ps => by
    rw [RTL, RTL_iff]
    constructor
    · rintro ⟨h1, h2, h3⟩ q hq
      rcases List.mem_cons.1 hq with rfl | hq
      · exact ⟨h1, h2⟩
      · exact h3 q hq
    · intro h
      exact ⟨(h p (.head _)).1, (h p (.head _)).2, fun q hq => h q (.tail _ hq)⟩
theorem sz_pos : ∀ (p : Pt), 0 < sz p | .mk _ _ _ => by rw [sz]; omega
theorem szL_append : ∀ (a b : List Pt), szL (a ++ b) = szL a + szL b
  | [], b => by simp [szL]
  | p :: a, b => by rw [List.cons_append, szL, szL, szL_append a b]; omega
mutual
theorem enc_length : ∀ (off : Nat) (p : Pt), (enc off p).length = sz p
  | off, .mk op pl kids => by rw [enc, List.length_append, encL_length off kids, sz]; simp; omega
theorem encL_length : ∀ (off : Nat) (ps : List Pt), (encL off ps).length = szL ps
  | _, [] => rfl
  | off, p :: ps => by rw [encL, List.length_append, enc_length off p, encL_length _ ps, szL]
end
theorem roots_length : ∀ (off : Nat) (ps : List Pt), (roots off ps).length = ps.length
  | _, [] => rfl
  | off, p :: ps => by rw [roots, List.length_cons, roots_length _ ps, List.length_cons]
theorem roots_append : ∀ (off : Nat) (a b : List Pt), roots off (a ++ b) = roots off a ++ roots (off + szL a) b
  | off, [], b => by simp [roots, szL]
  | off, p :: a, b => by rw [List.cons_append, roots, roots, List.cons_append, roots_append _ a b, szL, Nat.add_assoc]
theorem encL_append : ∀ (off : Nat) (a b : List Pt), encL off (a ++ b) = encL off a ++ encL (off + szL a) b
  | off, [], b => by simp [encL, szL]
  | off, p :: a, b => by rw [List.cons_append, encL, encL, List.append_assoc, encL_append _ a b, szL, Nat.add_assoc]
/-- The last node of a tree. -/
theorem enc_last (off : Nat) (p : Pt) : (enc off p)[sz p - 1]? = some ⟨p.op, p.pl, roots off p.kids⟩ := by
  obtain ⟨o, l, ks⟩ := p
  rw [enc, sz, List.getElem?_append_right (by rw [encL_length]; omega), encL_length]
  have : 1 + szL ks - 1 - szL ks = 0 := by omega
  rw [this]
  rfl
def shift (by_ : Int) (n : Nd) : Nd := ⟨n.op, n.pl, n.kids.map (· + by_)⟩
theorem roots_shift : ∀ (d off : Nat) (ps : List Pt), (roots off ps).map (· + (d : Int)) = roots (off + d) ps
  | _, _, [] => rfl
  | d, off, p :: ps => by
    rw [roots, roots, List.map_cons, roots_shift d _ ps, show off + sz p + d = off + d + sz p by omega]
    congr 1
    omega
mutual
theorem enc_shift : ∀ (d off : Nat) (p : Pt), (enc off p).map (shift d) = enc (off + d) p
  | d, off, .mk op pl kids => by
    rw [enc, enc, List.map_append, encL_shift d off kids]
    congr 1
    simp only [List.map_cons, List.map_nil, shift, roots_shift]
theorem encL_shift : ∀ (d off : Nat) (ps : List Pt), (encL off ps).map (shift d) = encL (off + d) ps
  | _, _, [] => rfl
  | d, off, p :: ps => by
    rw [encL, encL, List.map_append, enc_shift d off p, encL_shift d _ ps, show off + sz p + d = off + d + sz p by omega]
end
end Pt
end Go.Proofs.Ytbobjecjopmnfaa
