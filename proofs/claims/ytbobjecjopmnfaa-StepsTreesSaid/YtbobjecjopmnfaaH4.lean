/- Trees put in order or beside one another, in plain Lean: of trees (Put), of rows (put). -/
import Derived.Test.YtbobjecjopmnfaaH3
namespace Go.Proofs.Ytbobjecjopmnfaa
open Pt
/-- Nothing, or a right tree. -/
def TN (p : Pt) : Prop := p = Pt.nil ∨ RT p
/-- The row of a tree, or of nothing. -/
def encO (p : Pt) : List Nd := if p.op = 0 then [] else enc 0 p
def pieces (op : Int) (l : List Pt) : List Pt := l.flatMap fun p => if p.op = op then p.kids else if p.op ≠ 0 then [p] else []
def putK (op : Int) : List Pt → Pt
  | [] => Pt.nil
  | [p] => p
  | p :: q :: ks => .mk op 0 (p :: q :: ks)
def putT (op : Int) (l : List Pt) : Pt := putK op (pieces op l)
theorem Pt.RT.op_ne {p : Pt} (h : RT p) : p.op ≠ 0 := by
  obtain ⟨op, pl, ks⟩ := p
  rw [RT] at h
  show op ≠ 0
  rcases h with ⟨h1, _⟩ | ⟨h1, _⟩ <;> omega
theorem encO_nil : encO Pt.nil = [] := rfl
theorem encO_RT {p : Pt} (h : RT p) : encO p = enc 0 p := if_neg h.op_ne
theorem encO_eq_nil {p : Pt} (h : TN p) : encO p = [] ↔ p = Pt.nil := by
  rcases h with rfl | h
  · simp [encO_nil]
  · rw [encO_RT h]
    constructor
    · intro e
      have := enc_length 0 p
      rw [e] at this
      have := sz_pos p
      simp at *
      omega
    · rintro rfl
      exact absurd rfl (Pt.RT.op_ne h)
theorem Pt.RT.kids_of {p : Pt} (h : RT p) (ho : p.op = 1 ∨ p.op = 2) : p.pl = 0 ∧ 2 ≤ p.kids.length ∧ ∀ q ∈ p.kids, RT q ∧ q.op ≠ p.op := by
  obtain ⟨op, pl, ks⟩ := p
  rw [RT] at h
  rcases h with ⟨h1, _⟩ | ⟨_, h2, h3, h4⟩
  · exfalso
    rcases ho with ho | ho <;> · have : op = _ := ho; omega
  · exact ⟨h2, h3, RTL_iff.1 h4⟩
theorem pieces_RT {op : Int} (ho : op = 1 ∨ op = 2) {l : List Pt} (h : ∀ p ∈ l, TN p) : ∀ q ∈ pieces op l, RT q ∧ q.op ≠ op := by
  intro q hq
  obtain ⟨p, hp, hq⟩ := List.mem_flatMap.1 hq
  rcases h p hp with rfl | hr
  · have : Pt.nil.op = 0 := rfl
    rw [if_neg (by rw [this]; omega), this] at hq
    simp at hq
  · split at hq
    · rename_i e
      obtain ⟨_, _, h3⟩ := hr.kids_of (by rw [e]; exact ho)
      rw [← e]
      exact h3 q hq
    · rename_i e
      rw [if_pos hr.op_ne, List.mem_singleton] at hq
      subst hq
      exact ⟨hr, e⟩
theorem putK_TN {op : Int} (ho : op = 1 ∨ op = 2) : ∀ {ks : List Pt}, (∀ q ∈ ks, RT q ∧ q.op ≠ op) → TN (putK op ks)
  | [], _ => .inl rfl
  | [p], h => .inr (h p (.head _)).1
  | p :: q :: ks, h => .inr (by
    show RT (.mk op 0 (p :: q :: ks))
    rw [RT]
    exact .inr ⟨ho, rfl, by simp, RTL_iff.2 h⟩)
theorem putT_TN {op : Int} (ho : op = 1 ∨ op = 2) {l : List Pt} (h : ∀ p ∈ l, TN p) : TN (putT op l) := putK_TN ho (pieces_RT ho h)
/-- A right fork's kids, put again. -/
theorem putT_kids {op : Int} {ks : List Pt} (h : ∀ q ∈ ks, RT q ∧ q.op ≠ op) (h2 : 2 ≤ ks.length) : putT op ks = .mk op 0 ks := by
  have e : pieces op ks = ks := by
    unfold pieces
    have : ∀ (l : List Pt), (∀ q ∈ l, RT q ∧ q.op ≠ op) → l.flatMap (fun p => if p.op = op then p.kids else if p.op ≠ 0 then [p] else []) = l := by
      intro l
      induction l with
      | nil => intro _; rfl
      | cons p l ih =>
        intro hl
        rw [List.flatMap_cons, if_neg (hl p (.head _)).2, if_pos (hl p (.head _)).1.op_ne, ih (fun q hq => hl q (.tail _ hq))]
        rfl
    exact this ks h
  unfold putT
  rw [e]
  match ks, h2 with
  | _ :: _ :: _, _ => rfl
/-- One round of put: its rows. -/
def putStep (op : Int) (s : List Nd × List Int) (t : List Nd) : List Nd × List Int :=
  match t.getLast? with
  | none => s
  | some n =>
    if n.op = op then (s.1 ++ t.dropLast.map (shift s.1.length), s.2 ++ n.kids.map (· + (s.1.length : Int)))
    else (s.1 ++ t.map (shift s.1.length), s.2 ++ [(t.length : Int) - 1 + s.1.length])
def putR (op : Int) (rows : List (List Nd)) : List Nd :=
  let s := rows.foldl (putStep op) ([], [])
  if 1 < s.2.length then s.1 ++ [⟨op, 0, s.2⟩] else s.1
theorem enc_getLast (off : Nat) (p : Pt) : (enc off p).getLast? = some ⟨p.op, p.pl, roots off p.kids⟩ := by
  obtain ⟨o, l, ks⟩ := p
  rw [enc, List.getLast?_append]
  rfl
theorem putStep_law {op : Int} (ho : op = 1 ∨ op = 2) {ks : List Pt} {p : Pt} (h : TN p) :
    putStep op (encL 0 ks, roots 0 ks) (encO p) = (encL 0 (ks ++ pieces op [p]), roots 0 (ks ++ pieces op [p])) := by
  have hp1 : pieces op [p] = if p.op = op then p.kids else if p.op ≠ 0 then [p] else [] := by simp [pieces]
  rcases h with rfl | hr
  · have : Pt.nil.op = 0 := rfl
    rw [hp1, if_neg (by rw [this]; omega), this]
    simp [encO_nil, putStep]
  · rw [encO_RT hr, hp1]
    unfold putStep
    rw [enc_getLast]
    simp only [encL_length]
    by_cases e : p.op = op
    · rw [if_pos e, if_pos e]
      have hd : (enc 0 p).dropLast = encL 0 p.kids := by
        obtain ⟨o, l, ks'⟩ := p
        rw [enc, List.dropLast_concat]
        rfl
      rw [hd, encL_shift, roots_shift, encL_append, roots_append]
    · rw [if_neg e, if_neg e, if_pos hr.op_ne, enc_shift, enc_length, encL_append, roots_append, encL_one, roots, roots]
      congr 2
      simp
      omega
theorem putFold_law {op : Int} (ho : op = 1 ∨ op = 2) : ∀ (ps ks : List Pt), (∀ p ∈ ps, TN p) → (ps.map encO).foldl (putStep op) (encL 0 ks, roots 0 ks) = (encL 0 (ks ++ pieces op ps), roots 0 (ks ++ pieces op ps))
  | [], ks, _ => by simp [pieces]
  | p :: ps, ks, h => by
    rw [List.map_cons, List.foldl_cons, putStep_law ho (h p (.head _)), putFold_law ho ps _ (fun q hq => h q (.tail _ hq)), List.append_assoc]
    simp [pieces]
/-- THE LAW of put. -/
theorem putR_law {op : Int} (ho : op = 1 ∨ op = 2) {ps : List Pt} (h : ∀ p ∈ ps, TN p) : putR op (ps.map encO) = encO (putT op ps) := by
  have e := putFold_law ho ps [] h
  unfold putR
  simp only [encL, roots, List.nil_append] at e
  rw [e]
  simp only [roots_length]
  have hr := pieces_RT ho h
  unfold putT
  generalize pieces op ps = ks at hr
  match ks with
  | [] => rfl
  | [p] =>
    have := (hr p (.head _)).1
    simp [putK, encO_RT this, encL]
  | p :: q :: ks =>
    rw [if_pos (by simp)]
    have : encO (putK op (p :: q :: ks)) = enc 0 (.mk op 0 (p :: q :: ks)) := if_neg (by show op ≠ 0; omega)
    rw [this, enc]
end Go.Proofs.Ytbobjecjopmnfaa
