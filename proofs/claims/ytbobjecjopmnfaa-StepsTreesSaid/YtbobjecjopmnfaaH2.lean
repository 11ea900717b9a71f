/- Is a row a tree's? The pool of open nodes (steps.Right) tells what trees' rows are. -/
import Derived.Test.YtbobjecjopmnfaaH1
namespace Go.Proofs.Ytbobjecjopmnfaa
open Pt
def Nd.leaf (n : Nd) : Bool := decide (3 ≤ n.op ∧ n.op ≤ 7) && decide (n.kids.length = 0)
def Nd.fork (n : Nd) : Bool := (decide (n.op = 1) || decide (n.op = 2)) && (decide (n.pl = 0) && decide (2 ≤ n.kids.length))
/-- What op stands at a place. -/
def opAt (l : List Nd) (j : Int) : Int := (l[j.toNat]?.map Nd.op).getD 0
def rstep (f : Int → Int) (i : Nat) (n : Nd) (o : List Int) : Option (List Int) :=
  if n.leaf = true then some (o ++ [(i : Int)])
  else if n.fork = true ∧ n.kids.length ≤ o.length ∧ o.drop (o.length - n.kids.length) = n.kids then
    if n.kids.any (fun k => decide (f k = n.op)) = true then none else some (o.take (o.length - n.kids.length) ++ [(i : Int)])
  else none
def run (f : Int → Int) : Nat → List Nd → List Int → Option (List Int)
  | _, [], o => some o
  | i, n :: rest, o => (rstep f i n o).bind (run f (i + 1) rest)
theorem run_append (f : Int → Int) : ∀ (a b : List Nd) (i : Nat) (o : List Int), run f i (a ++ b) o = (run f i a o).bind (run f (i + a.length) b)
  | [], b, i, o => by simp [run]
  | n :: a, b, i, o => by
    rw [List.cons_append, run, run]
    cases rstep f i n o with
    | none => rfl
    | some o' =>
      rw [Option.bind_some, Option.bind_some, run_append f a b (i + 1) o', List.length_cons, show i + 1 + a.length = i + (a.length + 1) by omega]
/-- A forest of right trees. -/
def RTs (ps : List Pt) : Prop := ∀ p ∈ ps, RT p
def rightB (l : List Nd) : Bool := match run (opAt l) 0 l [] with | some o => decide (o.length < 2) | none => false
theorem roots_lt : ∀ (off : Nat) (ps : List Pt), ∀ r ∈ roots off ps, (off : Int) ≤ r ∧ r < off + szL ps
  | _, [], r, h => by cases h
  | off, p :: ps, r, h => by
    have hp := sz_pos p
    rw [szL]
    rcases List.mem_cons.1 h with rfl | h
    · constructor <;> omega
    · have := roots_lt (off + sz p) ps r h
      constructor <;> omega
/-- An op at a root is its tree's. -/
theorem opAt_root {l : List Nd} {a b : List Nd} {off : Nat} {p : Pt} (h : l = a ++ enc off p ++ b) (ha : a.length = off) : opAt l ((off + sz p : Nat) - 1 : Int) = p.op := by
  subst h
  have hp := sz_pos p
  have e : ((off + sz p : Nat) - 1 : Int).toNat = off + (sz p - 1) := by omega
  unfold opAt
  rw [e, List.append_assoc, List.getElem?_append_right (by omega), show off + (sz p - 1) - a.length = sz p - 1 by omega, List.getElem?_append_left (by rw [enc_length]; omega), enc_last]
  rfl
theorem ops_roots {l : List Nd} : ∀ (ps : List Pt) (a b : List Nd) (off : Nat), l = a ++ encL off ps ++ b → a.length = off → (roots off ps).map (opAt l) = ps.map Pt.op
  | [], _, _, _, _, _ => rfl
  | p :: ps, a, b, off, h, ha => by
    rw [roots, List.map_cons, List.map_cons, ops_roots ps (a ++ enc off p) b (off + sz p) (by rw [h, encL]; simp) (by rw [List.length_append, enc_length, ha])]
    rw [opAt_root (l := l) (a := a) (b := encL (off + sz p) ps ++ b) (by rw [h, encL]; simp) ha]
theorem leaf_of {o l : Int} (h1 : 3 ≤ o) (h2 : o ≤ 7) : (⟨o, l, []⟩ : Nd).leaf = true := by simp [Nd.leaf, h1, h2]
mutual
theorem run_enc {l : List Nd} : ∀ (p : Pt) (a b : List Nd) (off : Nat) (o : List Int), RT p → l = a ++ enc off p ++ b → a.length = off → run (opAt l) off (enc off p) o = some (o ++ [((off + sz p : Nat) - 1 : Int)])
  | .mk op pl kids, a, b, off, o, hr, h, ha => by
    rw [RT] at hr
    rcases hr with ⟨h1, h2, rfl⟩ | ⟨h1, rfl, h3, h4⟩
    · simp only [enc, encL, roots, List.nil_append, run, sz, szL, rstep, leaf_of h1 h2, if_true, Option.bind_some]
      congr 3
      omega
    · have hk := run_encL (l := l) kids a (⟨op, 0, roots off kids⟩ :: b) off o (fun q hq => (RTL_iff.1 h4 q hq).1) (by rw [h, enc]; simp) ha
      rw [enc, run_append, hk, Option.bind_some, run, encL_length]
      have hl : (⟨op, 0, roots off kids⟩ : Nd).leaf = false := by
        simp only [Nd.leaf, Bool.and_eq_false_iff, decide_eq_false_iff_not]
        left
        omega
      have hf : (⟨op, 0, roots off kids⟩ : Nd).fork = true := by
        simp only [Nd.fork, roots_length, Bool.and_eq_true, Bool.or_eq_true, decide_eq_true_eq]
        exact ⟨h1, trivial, h3⟩
      have hops := ops_roots (l := l) kids a (⟨op, 0, roots off kids⟩ :: b) off (by rw [h, enc]; simp) ha
      have hany : (roots off kids).any (fun k => decide (opAt l k = op)) = false := by
        rw [List.any_eq_false]
        intro r hr hd
        have : opAt l r ∈ kids.map Pt.op := by rw [← hops]; exact List.mem_map_of_mem hr
        obtain ⟨q, hq, he⟩ := List.mem_map.1 this
        exact (RTL_iff.1 h4 q hq).2 (he.trans (of_decide_eq_true hd))
      have hlen : (o ++ roots off kids).length - (roots off kids).length = o.length := by rw [List.length_append]; omega
      unfold rstep
      rw [if_neg (by rw [hl]; simp)]
      simp only [hlen]
      rw [if_pos ⟨hf, by rw [List.length_append]; omega, List.drop_left⟩, if_neg (by rw [hany]; simp), List.take_left, Option.bind_some, run, sz]
      congr 3
      omega
theorem run_encL {l : List Nd} : ∀ (ps : List Pt) (a b : List Nd) (off : Nat) (o : List Int), RTs ps → l = a ++ encL off ps ++ b → a.length = off → run (opAt l) off (encL off ps) o = some (o ++ roots off ps)
  | [], _, _, _, o, _, _, _ => by simp [encL, run, roots]
  | p :: ps, a, b, off, o, hr, h, ha => by
    rw [encL, run_append, run_enc (l := l) p a (encL (off + sz p) ps ++ b) off o (hr p (.head _)) (by rw [h, encL]; simp) ha, Option.bind_some, enc_length,
      run_encL (l := l) ps (a ++ enc off p) b (off + sz p) _ (fun q hq => hr q (.tail _ hq)) (by rw [h, encL]; simp) (by rw [List.length_append, enc_length, ha]), roots]
    simp
end
theorem rights_of {ps : List Pt} (h : RTs ps) : run (opAt (encL 0 ps)) 0 (encL 0 ps) [] = some (roots 0 ps) := by
  have := run_encL (l := encL 0 ps) ps [] [] 0 [] h (by simp) rfl
  simpa using this
theorem RTs.append {a b : List Pt} (h : RTs a) (k : RTs b) : RTs (a ++ b) := fun p hp => by
  rcases List.mem_append.1 hp with hp | hp
  · exact h p hp
  · exact k p hp
theorem encL_one (off : Nat) (p : Pt) : encL off [p] = enc off p := by simp [encL]
theorem szL_take_drop (ps : List Pt) (k : Nat) : szL ps = szL (ps.take k) + szL (ps.drop k) := by rw [← szL_append, List.take_append_drop]
/-- One step: the nodes up to i are a forest's: those up to the next one are, too. -/
theorem rstep_sound {l : List Nd} {i : Nat} {n : Nd} {o o' : List Int} {ps : List Pt} (hn : l[i]? = some n) (hr : RTs ps) (hl : l.take i = encL 0 ps) (ho : o = roots 0 ps) (h : rstep (opAt l) i n o = some o') :
    ∃ qs, RTs qs ∧ l.take (i + 1) = encL 0 qs ∧ o' = roots 0 qs := by
  have hi := (List.getElem?_eq_some_iff.1 hn).1
  have hni := (List.getElem?_eq_some_iff.1 hn).2
  have hsz : szL ps = i := by rw [← encL_length 0 ps, ← hl, List.length_take]; omega
  have hl' : l.take (i + 1) = encL 0 ps ++ [n] := by rw [List.take_succ_eq_append_getElem hi, hl, hni]
  obtain ⟨op, pl, kids⟩ := n
  unfold rstep at h
  split at h
  · rename_i hlf
    simp only [Nd.leaf, Bool.and_eq_true, decide_eq_true_eq] at hlf
    obtain ⟨⟨h1, h2⟩, h3⟩ := hlf
    obtain rfl : kids = [] := List.length_eq_zero_iff.1 h3
    injection h with h
    refine ⟨ps ++ [.mk op pl []], hr.append (fun p hp => ?_), ?_, ?_⟩
    · rw [List.mem_singleton] at hp
      subst hp
      rw [RT]
      exact .inl ⟨h1, h2, rfl⟩
    · rw [hl', encL_append, encL_one, enc]
      rfl
    · rw [← h, ho, roots_append, roots, roots, sz, hsz, szL]
      congr 2
      omega
  · split at h
    · rename_i hlf hc
      obtain ⟨hf, hk, hd⟩ := hc
      split at h
      · cases h
      · rename_i hany
        injection h with h
        simp only [Nd.fork, Bool.and_eq_true, Bool.or_eq_true, decide_eq_true_eq] at hf
        obtain ⟨h1, rfl, h3⟩ := hf
        simp only at hk hd h3
        have hol : o.length = ps.length := by rw [ho, roots_length]
        obtain ⟨k, hkk⟩ : ∃ k, k = o.length - kids.length := ⟨_, rfl⟩
        rw [← hkk] at hd
        have hsplit : roots 0 ps = roots 0 (ps.take k) ++ roots (0 + szL (ps.take k)) (ps.drop k) := by rw [← roots_append, List.take_append_drop]
        have hlk : (roots 0 (ps.take k)).length = k := by rw [roots_length, List.length_take]; omega
        have htk : o.take k = roots 0 (ps.take k) := by rw [ho, hsplit, List.take_append_of_le_length (by omega), List.take_of_length_le (by omega)]
        have hdk : o.drop k = roots (0 + szL (ps.take k)) (ps.drop k) := by rw [ho, hsplit, List.drop_append_of_le_length (by omega), List.drop_of_length_le (by omega), List.nil_append]
        have hkid : kids = roots (0 + szL (ps.take k)) (ps.drop k) := by rw [← hd, hdk]
        have henc : encL 0 ps = encL 0 (ps.take k) ++ encL (0 + szL (ps.take k)) (ps.drop k) := by rw [← encL_append, List.take_append_drop]
        have hops := ops_roots (l := l) (ps.drop k) (encL 0 (ps.take k)) (l.drop i) (0 + szL (ps.take k)) (by rw [← henc, ← hl, List.take_append_drop]) (by rw [encL_length]; omega)
        have hdl : (ps.drop k).length = kids.length := by rw [List.length_drop]; omega
        refine ⟨ps.take k ++ [.mk op 0 (ps.drop k)], RTs.append (fun p hp => hr p (List.mem_of_mem_take hp)) (fun p hp => ?_), ?_, ?_⟩
        · rw [List.mem_singleton] at hp
          subst hp
          rw [RT]
          refine .inr ⟨h1, rfl, by omega, RTL_iff.2 fun q hq => ⟨hr q (List.mem_of_mem_drop hq), fun e => hany ?_⟩⟩
          have hm : q.op ∈ (roots (0 + szL (ps.take k)) (ps.drop k)).map (opAt l) := by rw [hops]; exact List.mem_map_of_mem hq
          obtain ⟨r, hr1, hr2⟩ := List.mem_map.1 hm
          rw [List.any_eq_true]
          exact ⟨r, by rw [hkid]; exact hr1, by simp [hr2, e]⟩
        · rw [hl', encL_append, encL_one, enc, henc, List.append_assoc, hkid]
        · rw [← h, hkk.symm, htk, roots_append, roots, roots, sz]
          have := szL_take_drop ps k
          congr 2
          omega
    · cases h
theorem run_sound {l : List Nd} : ∀ (i : Nat), i ≤ l.length → ∀ o, run (opAt l) 0 (l.take i) [] = some o → ∃ ps, RTs ps ∧ l.take i = encL 0 ps ∧ o = roots 0 ps
  | 0, _, o, h => by
    simp [run] at h
    exact ⟨[], (fun p hp => by cases hp), by simp [encL], by rw [h]; rfl⟩
  | i + 1, hi, o, h => by
    have hlt : i < l.length := by omega
    rw [List.take_succ_eq_append_getElem hlt, run_append] at h
    cases h1 : run (opAt l) 0 (l.take i) [] with
    | none => rw [h1] at h; cases h
    | some o1 =>
      rw [h1, Option.bind_some] at h
      obtain ⟨ps, a, b, c⟩ := run_sound i (by omega) o1 h1
      simp only [run, List.length_take, Nat.zero_add, Nat.min_eq_left (Nat.le_of_lt hlt)] at h
      cases h2 : rstep (opAt l) i l[i] o1 with
      | none => rw [h2] at h; cases h
      | some o2 =>
        rw [h2, Option.bind_some] at h
        injection h with h
        subst h
        exact rstep_sound (List.getElem?_eq_getElem hlt) a b c h2
/-- THE LAW of Right: it is told so of the rows of nothing and of right trees. -/
theorem rightB_iff (l : List Nd) : rightB l = true ↔ l = [] ∨ ∃ p, RT p ∧ l = enc 0 p := by
  constructor
  · intro h
    unfold rightB at h
    cases h1 : run (opAt l) 0 l [] with
    | none => rw [h1] at h; cases h
    | some o =>
      rw [h1] at h
      have h2 := of_decide_eq_true h
      obtain ⟨ps, a, b, c⟩ := run_sound (l := l) l.length (Nat.le_refl _) o (by rw [List.take_length]; exact h1)
      rw [List.take_length] at b
      rw [c, roots_length] at h2
      match ps, h2 with
      | [], _ => exact .inl b
      | [p], _ => exact .inr ⟨p, a p (.head _), by rw [b, encL_one]⟩
  · rintro (rfl | ⟨p, hp, rfl⟩)
    · rfl
    · have := rights_of (ps := [p]) (fun q hq => by rw [List.mem_singleton] at hq; subst hq; exact hp)
      rw [encL_one] at this
      unfold rightB
      rw [this]
      rfl
end Go.Proofs.Ytbobjecjopmnfaa
