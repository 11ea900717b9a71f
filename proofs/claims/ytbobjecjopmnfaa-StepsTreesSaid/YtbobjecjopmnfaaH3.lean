/- The reference's reading of a row, from its end (part, Of), in plain Lean: it tells what Right tells. -/
import Derived.Test.YtbobjecjopmnfaaH2
namespace Go.Proofs.Ytbobjecjopmnfaa
open Pt
abbrev failP : Pt × Int × Bool := (Pt.nil, 0, false)
def kidsM (g : Int → Pt × Int × Bool) (op : Int) : List Int → List Pt → Int → Option (List Pt × Int)
  | [], acc, first => some (acc, first)
  | k :: ks, acc, first =>
    if k = first - 1 ∧ (g (first - 1)).2.2 = true ∧ (g (first - 1)).1.op ≠ op then kidsM g op ks ((g (first - 1)).1 :: acc) (g (first - 1)).2.1 else none
def partM : Nat → List Nd → Int → Pt × Int × Bool
  | 0, _, _ => failP
  | f + 1, l, i =>
    if i < 0 then failP else
    match l[i.toNat]? with
    | none => failP
    | some n =>
      if n.leaf = true then (.mk n.op n.pl [], i, true)
      else if n.fork = true then
        match kidsM (partM f l) n.op n.kids.reverse [] i with
        | none => failP
        | some r => (.mk n.op 0 r.1, r.2, true)
      else failP
def ofT (l : List Nd) : Pt × Bool := if l.length = 0 then (Pt.nil, true) else ((partM l.length l (l.length - 1)).1, (partM l.length l (l.length - 1)).2.2 && decide ((partM l.length l (l.length - 1)).2.1 = 0))
theorem kidsM_append (g : Int → Pt × Int × Bool) (op : Int) : ∀ (a b : List Int) (acc : List Pt) (first : Int), kidsM g op (a ++ b) acc first = (kidsM g op a acc first).bind fun r => kidsM g op b r.1 r.2
  | [], _, _, _ => rfl
  | k :: a, b, acc, first => by
    rw [List.cons_append, kidsM, kidsM]
    split
    · exact kidsM_append g op a b _ _
    · rfl
/-- A tree's row stands at off. -/
def Here (l : List Nd) (off : Nat) (p : Pt) : Prop := (l.drop off).take (sz p) = enc off p
def HereL (l : List Nd) (off : Nat) (ps : List Pt) : Prop := (l.drop off).take (szL ps) = encL off ps
theorem take_drop_split {l : List Nd} {off a b : Nat} {x y : List Nd} (hx : x.length = a) (h : (l.drop off).take (a + b) = x ++ y) : (l.drop off).take a = x ∧ (l.drop (off + a)).take b = y := by
  rw [List.take_add, List.drop_drop] at h
  have hl : ((l.drop off).take (a + b)).length = a + ((l.drop (off + a)).take b).length ∨ ((l.drop off).take a).length < a := by
    by_cases hh : ((l.drop off).take a).length < a
    · exact .inr hh
    · left
      rw [List.take_add, List.length_append, List.drop_drop]
      rw [List.length_take] at hh ⊢
      omega
  have hle : ((l.drop off).take a).length ≤ a := by rw [List.length_take]; omega
  by_cases hh : ((l.drop off).take a).length = a
  · exact List.append_inj h (by rw [hh, hx])
  · -- too short: nothing is left behind it
    have hs : (l.drop (off + a)).take b = [] := by
      rw [List.length_take, List.length_drop] at hh
      rw [List.drop_of_length_le (by omega)]
      simp
    rw [hs, List.append_nil] at h
    have : ((l.drop off).take a).length = x.length + y.length := by rw [h, List.length_append]
    omega
theorem HereL.cons {l : List Nd} {off : Nat} {p : Pt} {ps : List Pt} (h : HereL l off (p :: ps)) : Here l off p ∧ HereL l (off + sz p) ps := by
  unfold HereL at h
  rw [szL, encL] at h
  exact take_drop_split (enc_length off p) h
theorem HereL.mk {l : List Nd} {off : Nat} {p : Pt} {ps : List Pt} (h : Here l off p) (k : HereL l (off + sz p) ps) : HereL l off (p :: ps) := by
  unfold HereL
  rw [szL, encL, List.take_add, List.drop_drop, h, k]
theorem Here.kids {l : List Nd} {off : Nat} {op pl : Int} {ks : List Pt} (h : Here l off (.mk op pl ks)) : HereL l off ks ∧ l[off + szL ks]? = some ⟨op, pl, roots off ks⟩ := by
  unfold Here at h
  rw [sz, Nat.add_comm, enc] at h
  obtain ⟨a, b⟩ := take_drop_split (encL_length off ks) h
  refine ⟨a, ?_⟩
  have : ((l.drop (off + szL ks)).take 1)[0]? = some ⟨op, pl, roots off ks⟩ := by rw [b]; rfl
  rw [List.getElem?_take, if_pos (by decide), List.getElem?_drop] at this
  exact this
theorem Here.of {l : List Nd} {off : Nat} {op pl : Int} {ks : List Pt} (h : HereL l off ks) (k : l[off + szL ks]? = some ⟨op, pl, roots off ks⟩) : Here l off (.mk op pl ks) := by
  unfold Here
  rw [sz, Nat.add_comm, enc, List.take_add, List.drop_drop, h]
  congr 1
  have hlt := (List.getElem?_eq_some_iff.1 k).1
  rw [List.drop_eq_getElem_cons hlt, (List.getElem?_eq_some_iff.1 k).2]
  rfl
/-- What part tells is so. -/
theorem partM_sound {l : List Nd} : ∀ (f : Nat) (i : Int) (p : Pt) (fr : Int), partM f l i = (p, fr, true) → ∃ off : Nat, fr = off ∧ RT p ∧ (off + sz p : Int) = i + 1 ∧ Here l off p
  | 0, i, p, fr, h => by simp [partM] at h
  | f + 1, i, p, fr, h => by
    rw [partM] at h
    split at h
    · simp at h
    · rename_i hi
      split at h
      · simp at h
      · rename_i n hn
        obtain ⟨op, pl, kids⟩ := n
        split at h
        · rename_i hlf
          simp only [Nd.leaf, Bool.and_eq_true, decide_eq_true_eq] at hlf
          obtain ⟨⟨h1, h2⟩, h3⟩ := hlf
          obtain rfl : kids = [] := List.length_eq_zero_iff.1 h3
          simp only [Prod.mk.injEq, and_true] at h
          obtain ⟨rfl, rfl⟩ := h
          refine ⟨i.toNat, by omega, by rw [RT]; exact .inl ⟨h1, h2, rfl⟩, by rw [sz, szL]; omega, Here.of ?_ ?_⟩
          · unfold HereL
            rw [szL, encL]
            simp
          · simpa [szL, roots] using hn
        · split at h
          · rename_i hf
            simp only [Nd.fork, Bool.and_eq_true, Bool.or_eq_true, decide_eq_true_eq] at hf
            obtain ⟨h1, rfl, h3⟩ := hf
            have key : ∀ (ks : List Int) (acc : List Pt) (first : Nat) (r : List Pt × Int), kidsM (partM f l) op ks acc first = some r → (∀ q ∈ acc, RT q ∧ q.op ≠ op) → HereL l first acc →
                ∃ (qs : List Pt) (off : Nat), r = (qs ++ acc, (off : Int)) ∧ (∀ q ∈ qs ++ acc, RT q ∧ q.op ≠ op) ∧ HereL l off (qs ++ acc) ∧ off + szL qs = first ∧ ks.reverse = roots off qs := by
              intro ks
              induction ks with
              | nil =>
                intro acc first r hk ha hh
                simp only [kidsM] at hk
                injection hk with hk
                exact ⟨[], first, by rw [← hk]; rfl, ha, hh, by simp [szL], rfl⟩
              | cons k ks ih =>
                intro acc first r hk ha hh
                rw [kidsM] at hk
                split at hk
                · rename_i hc
                  obtain ⟨c1, c2, c3⟩ := hc
                  obtain ⟨off, ho, hr, hs, hhere⟩ := partM_sound f ((first : Int) - 1) (partM f l ((first : Int) - 1)).1 (partM f l ((first : Int) - 1)).2.1 (by rw [← c2])
                  have hsz : off + sz (partM f l ((first : Int) - 1)).1 = first := by omega
                  rw [ho] at hk
                  obtain ⟨qs, off', e1, e2, e3, e4, e5⟩ := ih _ off r hk (fun q hq => by
                    rcases List.mem_cons.1 hq with rfl | hq
                    · exact ⟨hr, c3⟩
                    · exact ha q hq) (HereL.mk hhere (by rw [hsz]; exact hh))
                  refine ⟨qs ++ [(partM f l ((first : Int) - 1)).1], off', by rw [e1, List.append_assoc]; rfl, by rw [List.append_assoc]; exact e2, by rw [List.append_assoc]; exact e3, by rw [szL_append, szL, szL]; omega, ?_⟩
                  rw [List.reverse_cons, e5, roots_append, roots, roots, c1]
                  congr 2
                  omega
                · cases hk
            split at h
            · simp at h
            · rename_i r hr
              simp only [Prod.mk.injEq, and_true] at h
              obtain ⟨rfl, rfl⟩ := h
              have hr' : kidsM (partM f l) op kids.reverse [] (i.toNat : Int) = some r := by rw [show ((i.toNat : Nat) : Int) = i by omega]; exact hr
              obtain ⟨qs, off, e1, e2, e3, e4, e5⟩ := key kids.reverse [] i.toNat r hr' (fun q hq => by cases hq) (by unfold HereL; simp [szL, encL])
              rw [List.append_nil] at e1 e2 e3
              rw [List.reverse_reverse] at e5
              subst e1
              refine ⟨off, rfl, ?_, ?_, Here.of e3 ?_⟩
              · rw [RT]
                refine .inr ⟨h1, rfl, ?_, RTL_iff.2 e2⟩
                rw [e5, roots_length] at h3
                exact h3
              · show (off : Int) + sz (.mk op 0 qs) = i + 1
                rw [sz]
                omega
              · rw [e4, hn, e5]
          · simp at h
theorem Here.lt {l : List Nd} {off : Nat} {p : Pt} (h : Here l off p) : off + sz p ≤ l.length := by
  have hp := sz_pos p
  unfold Here at h
  have : ((l.drop off).take (sz p)).length = sz p := by rw [h, enc_length]
  rw [List.length_take, List.length_drop] at this
  omega
mutual
/-- Of a right tree that stands there part tells it. -/
theorem partM_complete {l : List Nd} : ∀ (p : Pt) (off f : Nat), RT p → Here l off p → off + sz p ≤ f → partM f l ((off + sz p : Nat) - 1 : Int) = (p, (off : Int), true)
  | .mk op pl ks, off, f, hr, hh, hf => by
    have hn := hh.kids.2
    have hhl := hh.kids.1
    have hpos : 0 < sz (.mk op pl ks) := sz_pos _
    obtain ⟨f, rfl⟩ : ∃ g, f = g + 1 := ⟨f - 1, by omega⟩
    have hi : ((off + sz (.mk op pl ks) : Nat) - 1 : Int) = ((off + szL ks : Nat) : Int) := by rw [sz]; omega
    rw [hi, partM, if_neg (by omega), Int.toNat_natCast, hn]
    rw [RT] at hr
    rcases hr with ⟨h1, h2, rfl⟩ | ⟨h1, rfl, h3, h4⟩
    · simp only [roots, leaf_of h1 h2, if_true, szL, Nat.add_zero]
    · have hl : (⟨op, 0, roots off ks⟩ : Nd).leaf = false := by
        simp only [Nd.leaf, Bool.and_eq_false_iff, decide_eq_false_iff_not]
        left
        omega
      have hfk : (⟨op, 0, roots off ks⟩ : Nd).fork = true := by
        simp only [Nd.fork, roots_length, Bool.and_eq_true, Bool.or_eq_true, decide_eq_true_eq]
        exact ⟨h1, trivial, h3⟩
      have hk := kidsM_complete (l := l) ks off f op [] (RTL_iff.1 h4) hhl (by rw [sz] at hf; omega)
      rw [List.append_nil] at hk
      simp only [hl, hfk, if_true, hk]
      simp
theorem kidsM_complete {l : List Nd} : ∀ (ps : List Pt) (off f : Nat) (op : Int) (acc : List Pt), (∀ q ∈ ps, RT q ∧ q.op ≠ op) → HereL l off ps → off + szL ps ≤ f → kidsM (partM f l) op (roots off ps).reverse acc ((off + szL ps : Nat) : Int) = some (ps ++ acc, (off : Int))
  | [], off, f, op, acc, _, _, _ => by simp [roots, kidsM, szL]
  | p :: ps, off, f, op, acc, hr, hh, hf => by
    rw [szL] at hf
    have e := kidsM_complete (l := l) ps (off + sz p) f op acc (fun q hq => hr q (.tail _ hq)) hh.cons.2 (by omega)
    have hp := partM_complete (l := l) p off f (hr p (.head _)).1 hh.cons.1 (by omega)
    rw [roots, List.reverse_cons, kidsM_append, szL, ← Nat.add_assoc, e, Option.bind_some]
    simp only [kidsM]
    rw [hp]
    simp only [true_and]
    rw [if_pos (hr p (.head _)).2]
    rfl
end
/-- THE LAW of Of: it tells what Right tells, and the tree. -/
theorem ofT_right (l : List Nd) : (ofT l).2 = rightB l ∧ (rightB l = true → (l = [] ∧ (ofT l).1 = Pt.nil) ∨ (RT (ofT l).1 ∧ l = enc 0 (ofT l).1)) := by
  by_cases h0 : l.length = 0
  · obtain rfl := List.length_eq_zero_iff.1 h0
    exact ⟨rfl, fun _ => .inl ⟨rfl, rfl⟩⟩
  · have hof : ofT l = ((partM l.length l (l.length - 1)).1, (partM l.length l (l.length - 1)).2.2 && decide ((partM l.length l (l.length - 1)).2.1 = 0)) := by unfold ofT; rw [if_neg h0]
    have full : ∀ p, Here l 0 p → (0 + sz p : Int) = l.length → l = enc 0 p := fun p h1 h2 => by
      unfold Here at h1
      rw [List.drop_zero, List.take_of_length_le (by omega)] at h1
      exact h1
    cases hr : rightB l with
    | true =>
      obtain rfl | ⟨p, hp, hl⟩ := (rightB_iff l).1 hr
      · exact absurd rfl h0
      · have hh : Here l 0 p := by
          unfold Here
          rw [hl, List.drop_zero, List.take_of_length_le (by rw [enc_length]; exact Nat.le_refl _)]
        have hlen : l.length = sz p := by rw [hl, enc_length]
        have := partM_complete (l := l) p 0 l.length hp hh (by omega)
        rw [show ((0 + sz p : Nat) - 1 : Int) = (l.length : Int) - 1 by omega] at this
        rw [hof, this]
        exact ⟨rfl, fun _ => .inr ⟨hp, hl⟩⟩
    | false =>
      refine ⟨?_, fun h => by cases h⟩
      rw [hof]
      cases hb : (partM l.length l (l.length - 1)).2.2 && decide ((partM l.length l (l.length - 1)).2.1 = 0) with
      | false => rfl
      | true =>
        rw [Bool.and_eq_true, decide_eq_true_eq] at hb
        obtain ⟨off, e1, e2, e3, e4⟩ := partM_sound (l := l) l.length ((l.length : Int) - 1) (partM l.length l (l.length - 1)).1 (partM l.length l (l.length - 1)).2.1 (by rw [← hb.1])
        have : off = 0 := by omega
        subst this
        have hl := full _ e4 (by omega)
        have : rightB l = true := (rightB_iff l).2 (.inr ⟨_, e2, hl⟩)
        rw [hr] at this
        cases this
end Go.Proofs.Ytbobjecjopmnfaa
