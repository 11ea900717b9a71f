/- PoolOnce's invariant, in plain Lean. -/
import Derived.Test.YtbobjecjopmnfaaG2
namespace Go.Proofs.Ytbobjecjopmnfaa
open Go.RowKit
def num (x : Ev) : Int := x.pl + x.ar
abbrev eD (q : Nat) : Ev := ⟨1, ⟨#[]⟩, 0, q⟩
abbrev eT (q : Nat) : Ev := ⟨3, ⟨#[]⟩, 0, q⟩
abbrev eC (q : Nat) : Ev := ⟨2, ⟨#[97]⟩, q, 0⟩
/-- Ahead of round i of n: what was taken in and not told has not been told; the order. -/
structure Inv (i n : Nat) (m : M) (told : List Int) (dn ot : Int) (df : Bool) : Prop where
  tl : told.length = n
  fD : ∀ x ∈ m.D, ∃ q : Nat, q < i ∧ dn < q ∧ told[q]? = some 0 ∧ x = eD q
  fR : ∀ x ∈ m.R ++ m.F, ∃ q : Nat, q < i ∧ told[q]? = some 0 ∧ (x = eT q ∨ x = eC q)
  nd : (m.D ++ (m.R ++ m.F)).Pairwise (fun x y => num x ≠ num y)
  sD : m.D.Pairwise (fun x y => num x < num y)
  ze : ∀ q, i ≤ q → q < n → told[q]? = some 0
  dl : dn < i
  ol : ot < i
  no : df = false → m.F = [] ∧ m.R.Pairwise (fun x y => num x < num y) ∧ ∀ x ∈ m.R, ot < num x
namespace Inv
variable {i n : Nat} {m : M} {told : List Int} {dn ot : Int} {df : Bool}
theorem numD (h : Inv i n m told dn ot df) : ∀ x ∈ m.D, num x < i := fun x hx => by
  obtain ⟨q, hq, _, _, rfl⟩ := h.fD x hx
  simp [num]; omega
theorem numR (h : Inv i n m told dn ot df) : ∀ x ∈ m.R ++ m.F, num x < i := fun x hx => by
  obtain ⟨q, hq, _, rfl | rfl⟩ := h.fR x hx <;> simp [num] <;> omega
theorem numA (h : Inv i n m told dn ot df) : ∀ x ∈ m.D ++ (m.R ++ m.F), num x < i := fun x hx => by
  rcases List.mem_append.1 hx with hx | hx
  · exact h.numD x hx
  · exact h.numR x hx
theorem skip (h : Inv i n m told dn ot df) : Inv (i + 1) n m told dn ot df where
  tl := h.tl
  fD := fun x hx => by obtain ⟨q, a, b⟩ := h.fD x hx; exact ⟨q, by omega, b⟩
  fR := fun x hx => by obtain ⟨q, a, b⟩ := h.fR x hx; exact ⟨q, by omega, b⟩
  nd := h.nd
  sD := h.sD
  ze := fun q a b => h.ze q (by omega) b
  dl := by have := h.dl; omega
  ol := by have := h.ol; omega
  no := h.no
theorem pw_append {r : Ev → Ev → Prop} {l : List Ev} {e : Ev} (h : l.Pairwise r) (k : ∀ x ∈ l, r x e) : (l ++ [e]).Pairwise r :=
  List.pairwise_append.2 ⟨h, List.pairwise_singleton _ _, fun x hx y hy => by rw [List.mem_singleton] at hy; subst hy; exact k x hx⟩
theorem sym : ∀ {x y : Ev}, num x ≠ num y → num y ≠ num x := fun h => h.symm
theorem perm {a b : List Ev} (h : a.Pairwise (fun x y => num x ≠ num y)) (p : a.Perm b) : b.Pairwise (fun x y => num x ≠ num y) := (p.pairwise_iff sym).1 h
theorem addD (h : Inv i n m told dn ot df) (hi : i < n) : Inv (i + 1) n { m with D := m.D ++ [eD i] } told dn ot df where
  tl := h.tl
  fD := fun x hx => by
    rcases List.mem_append.1 hx with hx | hx
    · exact h.skip.fD x hx
    · rw [List.mem_singleton] at hx
      exact ⟨i, by omega, h.dl, h.ze i (Nat.le_refl _) hi, hx⟩
  fR := h.skip.fR
  nd := by
    refine perm (a := (m.D ++ (m.R ++ m.F)) ++ [eD i]) (pw_append h.nd fun x hx => ?_) ?_
    · have := h.numA x hx
      simp [num] at *; omega
    · show ((m.D ++ (m.R ++ m.F)) ++ [eD i]).Perm ((m.D ++ [eD i]) ++ (m.R ++ m.F))
      rw [List.append_assoc m.D (m.R ++ m.F), List.append_assoc m.D [eD i]]
      exact List.Perm.append_left _ List.perm_append_comm
  sD := pw_append h.sD fun x hx => by have := h.numD x hx; simp [num] at *; omega
  ze := h.skip.ze
  dl := h.skip.dl
  ol := h.skip.ol
  no := h.skip.no
theorem addR (h : Inv i n m told dn ot df) (hi : i < n) : Inv (i + 1) n { m with R := m.R ++ [eT i] } told dn ot df where
  tl := h.tl
  fD := h.skip.fD
  fR := fun x hx => by
    simp only [List.mem_append, List.mem_singleton] at hx
    rcases hx with (hx | hx) | hx
    · exact h.skip.fR x (List.mem_append.2 (.inl hx))
    · exact ⟨i, by omega, h.ze i (Nat.le_refl _) hi, .inl hx⟩
    · exact h.skip.fR x (List.mem_append.2 (.inr hx))
  nd := by
    refine perm (a := (m.D ++ (m.R ++ m.F)) ++ [eT i]) (pw_append h.nd fun x hx => ?_) ?_
    · have := h.numA x hx
      simp [num] at *; omega
    · show ((m.D ++ (m.R ++ m.F)) ++ [eT i]).Perm (m.D ++ ((m.R ++ [eT i]) ++ m.F))
      rw [List.append_assoc, List.append_assoc, List.append_assoc]
      exact List.Perm.append_left _ (List.Perm.append_left _ List.perm_append_comm)
  sD := h.sD
  ze := h.skip.ze
  dl := h.skip.dl
  ol := h.skip.ol
  no := fun hd => by
    obtain ⟨a, b, c⟩ := h.no hd
    refine ⟨a, pw_append b fun x hx => ?_, fun x hx => ?_⟩
    · have := h.numR x (List.mem_append.2 (.inl hx)); simp [num] at *; omega
    · rcases List.mem_append.1 hx with hx | hx
      · exact c x hx
      · rw [List.mem_singleton] at hx
        subst hx
        have := h.ol
        simp [num]; omega
theorem addF (h : Inv i n m told dn ot df) (hi : i < n) : Inv (i + 1) n { m with F := m.F ++ [eC i] } told dn ot true where
  tl := h.tl
  fD := h.skip.fD
  fR := fun x hx => by
    simp only [List.mem_append, List.mem_singleton] at hx
    rcases hx with hx | hx | hx
    · exact h.skip.fR x (List.mem_append.2 (.inl hx))
    · exact h.skip.fR x (List.mem_append.2 (.inr hx))
    · exact ⟨i, by omega, h.ze i (Nat.le_refl _) hi, .inr hx⟩
  nd := by
    refine perm (a := (m.D ++ (m.R ++ m.F)) ++ [eC i]) (pw_append h.nd fun x hx => ?_) ?_
    · have := h.numA x hx
      simp [num] at *; omega
    · show ((m.D ++ (m.R ++ m.F)) ++ [eC i]).Perm (m.D ++ (m.R ++ (m.F ++ [eC i])))
      rw [List.append_assoc, List.append_assoc]
  sD := h.sD
  ze := h.skip.ze
  dl := h.skip.dl
  ol := h.skip.ol
  no := fun hd => by cases hd
theorem deferred (h : Inv i n m told dn ot df) : Inv i n m told dn ot true where
  tl := h.tl
  fD := h.fD
  fR := h.fR
  nd := h.nd
  sD := h.sD
  ze := h.ze
  dl := h.dl
  ol := h.ol
  no := fun hd => by cases hd
theorem recall (h : Inv i n m told dn ot df) : Inv (i + 1) n m.recall.1 told dn ot df where
  tl := h.tl
  fD := h.skip.fD
  fR := fun x hx => by
    simp only [M.recall, List.mem_append, List.append_nil] at hx
    exact h.skip.fR x (List.mem_append.2 hx.symm)
  nd := by
    refine perm h.nd ?_
    show (m.D ++ (m.R ++ m.F)).Perm (m.D ++ ((m.F ++ m.R) ++ []))
    rw [List.append_nil]
    exact List.Perm.append_left _ List.perm_append_comm
  sD := h.sD
  ze := h.skip.ze
  dl := h.skip.dl
  ol := h.skip.ol
  no := fun hd => by
    obtain ⟨a, b, c⟩ := h.no hd
    refine ⟨rfl, ?_, ?_⟩
    · show (m.F ++ m.R).Pairwise _
      rw [a]; exact b
    · show ∀ x ∈ m.F ++ m.R, _
      rw [a]; exact c
theorem put (h : Inv i n m told dn ot df) (hi : i < n) : Inv (i + 1) n (m.put (eD i)).1 told dn ot df := by
  unfold M.put
  split
  · exact h.skip
  · split
    · exact h.skip
    · exact h.addD hi
theorem putT (h : Inv i n m told dn ot df) (hi : i < n) : Inv (i + 1) n (m.put (eT i)).1 told dn ot df := by
  unfold M.put
  split
  · exact h.skip
  · split
    · exact h.skip
    · exact h.addR hi
theorem defer (h : Inv i n m told dn ot df) (hi : i < n) : Inv (i + 1) n (m.defer (eC i)).1 told dn ot true := by
  unfold M.defer
  split
  · exact h.deferred.skip
  · split
    · exact h.deferred.skip
    · exact h.addF hi
theorem set_other {q q' : Nat} (h : told[q']? = some 0) (hne : q ≠ q') : (told.set q 1)[q']? = some 0 := by rw [List.getElem?_set_ne hne]; exact h
theorem tellD {x : Ev} {D : List Ev} {q : Nat} (h : Inv i n m told dn ot df) (hm : m.D = x :: D) (hx : x = eD q) : Inv (i + 1) n { m with D := D } (told.set q 1) q ot df := by
  obtain ⟨room, D0, R, F⟩ := m
  cases hm
  have hq : q < i := by have := h.numD x (.head _); rw [hx] at this; simp [num] at this; omega
  have nd := h.nd
  rw [List.cons_append, List.pairwise_cons] at nd
  have sD := h.sD
  rw [List.pairwise_cons] at sD
  exact {
    tl := by rw [List.length_set]; exact h.tl
    fD := fun y hy => by
      obtain ⟨q', a, b, c, rfl⟩ := h.fD y (.tail _ hy)
      have hlt := sD.1 _ hy
      rw [hx] at hlt
      simp [num] at hlt
      exact ⟨q', by omega, by omega, set_other c (by omega), rfl⟩
    fR := fun y hy => by
      obtain ⟨q', a, c, hh⟩ := h.fR y hy
      have hlt := nd.1 y (List.mem_append.2 (.inr hy))
      have hne : q ≠ q' := by rintro rfl; rcases hh with rfl | rfl <;> rw [hx] at hlt <;> simp [num] at hlt
      exact ⟨q', by omega, set_other c hne, hh⟩
    nd := nd.2
    sD := sD.2
    ze := fun q' a b => set_other (h.ze q' (by omega) b) (by omega)
    dl := by omega
    ol := h.skip.ol
    no := h.no }
theorem tellR {x : Ev} {R : List Ev} {q : Nat} (h : Inv i n m told dn ot df) (hm : m.R = x :: R) (hx : x = eT q ∨ x = eC q) : Inv (i + 1) n { m with R := R } (told.set q 1) dn q df := by
  obtain ⟨room, D, R0, F⟩ := m
  cases hm
  have hnx : num x = q := by rcases hx with rfl | rfl <;> simp [num]
  have hq : q < i := by have := h.numR x (List.mem_append.2 (.inl (.head _))); rw [hnx] at this; omega
  have nd := List.pairwise_append.1 h.nd
  have nd2 := nd.2.1
  rw [List.cons_append, List.pairwise_cons] at nd2
  exact {
    tl := by rw [List.length_set]; exact h.tl
    fD := fun y hy => by
      obtain ⟨q', a, b, c, rfl⟩ := h.fD y hy
      have hne := nd.2.2 _ hy x (.head _)
      rw [hnx] at hne
      simp [num] at hne
      exact ⟨q', by omega, by omega, set_other c (by omega), rfl⟩
    fR := fun y hy => by
      have hy' : y ∈ (x :: R) ++ F := .tail _ hy
      obtain ⟨q', a, c, hh⟩ := h.fR y hy'
      have hne := nd2.1 y hy
      rw [hnx] at hne
      have hny : num y = q' := by rcases hh with rfl | rfl <;> simp [num]
      exact ⟨q', by omega, set_other c (by omega), hh⟩
    nd := List.pairwise_append.2 ⟨nd.1, nd2.2, fun a ha b hb => nd.2.2 a ha b (.tail _ hb)⟩
    sD := h.sD
    ze := fun q' a b => set_other (h.ze q' (by omega) b) (by omega)
    dl := h.skip.dl
    ol := by omega
    no := fun hd => by
      obtain ⟨a, b, c⟩ := h.no hd
      rw [List.pairwise_cons] at b
      refine ⟨a, b.2, fun y hy => ?_⟩
      have := b.1 y hy
      rw [hnx] at this
      exact this }
end Inv
theorem Inv.start (room : Int) (n : Nat) : Inv 0 n (M.fresh room) (List.replicate n 0) (-1) (-1) false where
  tl := by simp
  fD := fun x hx => by cases hx
  fR := fun x hx => by cases hx
  nd := .nil
  sD := .nil
  ze := fun q _ h => by simp [h]
  dl := by decide
  ol := by decide
  no := fun _ => ⟨rfl, .nil, fun x hx => by cases hx⟩
/-- Behind the rounds: of what waits, from j on, nothing has been told. -/
structure Left (n : Nat) (L : List Ev) (j : Nat) (told : List Int) : Prop where
  tl : told.length = n
  f : ∀ x ∈ L.drop j, ∃ q : Nat, q < n ∧ told[q]? = some 0 ∧ (x = eD q ∨ x = eT q ∨ x = eC q)
  nd : (L.drop j).Pairwise (fun x y => num x ≠ num y)
theorem Inv.left {n : Nat} {m : M} {told : List Int} {dn ot : Int} {df : Bool} (h : Inv n n m told dn ot df) : Left n (m.D ++ (m.R ++ m.F)) 0 told where
  tl := h.tl
  f := fun x hx => by
    rcases List.mem_append.1 hx with hx | hx
    · obtain ⟨q, a, b, c, d⟩ := h.fD x hx
      exact ⟨q, a, c, .inl d⟩
    · obtain ⟨q, a, c, d⟩ := h.fR x hx
      exact ⟨q, a, c, .inr d⟩
  nd := h.nd
theorem Left.tell {n j : Nat} {L : List Ev} {told : List Int} (h : Left n L j told) (hj : j < L.length) {x : Ev} {q : Nat} (hx : x = L[j]) (hh : x = eD q ∨ x = eT q ∨ x = eC q) : Left n L (j + 1) (told.set q 1) := by
  have f := h.f
  have nd := h.nd
  rw [List.drop_eq_getElem_cons hj] at f nd
  rw [List.pairwise_cons] at nd
  have hnx : num L[j] = q := by rw [← hx]; rcases hh with rfl | rfl | rfl <;> simp [num]
  refine ⟨by rw [List.length_set]; exact h.tl, fun y hy => ?_, nd.2⟩
  obtain ⟨q', a, c, d⟩ := f y (.tail _ hy)
  have hne := nd.1 y hy
  rw [hnx] at hne
  have hny : num y = q' := by rcases d with rfl | rfl | rfl <;> simp [num]
  exact ⟨q', a, Inv.set_other c (by omega), d⟩
theorem Left.here {n j : Nat} {L : List Ev} {told : List Int} (h : Left n L j told) (hj : j < L.length) : ∃ q : Nat, q < n ∧ told[q]? = some 0 ∧ (L[j] = eD q ∨ L[j] = eT q ∨ L[j] = eC q) :=
  h.f _ (by rw [List.drop_eq_getElem_cons hj]; exact .head _)
end Go.Proofs.Ytbobjecjopmnfaa
