/- Trees in memory; rows of the call's own whose elements lead on. -/
import Derived.Test.YtbobjecjopmnfaaJ1
namespace Go.Proofs.Ytbobjecjopmnfaa
open Go.RowKit
/-- A tree of depth at most n: its Op, its At, the row of its parts. -/
def El.ptD : Nat → El Pt
  | 0 => { sz := 3, pos := by decide, P := fun _ _ _ _ => False, len := fun h => h.elim, one := fun h => h.elim, move := fun _ h => h, mono := fun _ h => h }
  | n + 1 =>
    { sz := 3
      pos := by decide
      P := fun w ok p cs => ∃ A c, cs = [.int .u8 p.op, .int .i64 p.pl, .slice A p.kids.length c] ∧ Rds (El.ptD n) w ok (.slice A p.kids.length c) p.kids
      len := by rintro w ok x cs ⟨A, c, rfl, _⟩; rfl
      one := by
        rintro w ok x cs ⟨A, c, rfl, _⟩ u hu
        simp at hu
        rcases hu with rfl | rfl | rfl <;> rfl
      move := by rintro w w' ok x cs hk ⟨A, c, he, h⟩; exact ⟨A, c, he, h.move hk⟩
      mono := by rintro w ok ok' x cs hk ⟨A, c, he, h⟩; exact ⟨A, c, he, h.mono hk⟩ }
theorem ptD_sz : ∀ n, (El.ptD n).sz = 3
  | 0 => rfl
  | _ + 1 => rfl
theorem Rds.swap {α : Type} {d e : El α} {w : World} {ok : Nat → Prop} {v : Value} {xs : List α} (hs : d.sz = e.sz) (hp : ∀ x ∈ xs, ∀ cs, d.P w ok x cs → e.P w ok x cs) (h : Rds d w ok v xs) : Rds e w ok v xs := by
  obtain ⟨css, h1, h2⟩ := h
  refine ⟨css, by rw [← hs]; exact h1, ?_⟩
  clear h1
  induction h2 with
  | nil => exact .nil
  | cons a b ih => exact .cons (hp _ (.head _) _ a) (ih fun x hx => hp x (.tail _ hx))
theorem ptD_mono : ∀ (n m : Nat), n ≤ m → ∀ {w : World} {ok : Nat → Prop} {p : Pt} {cs : List Value}, (El.ptD n).P w ok p cs → (El.ptD m).P w ok p cs
  | 0, _, _, _, _, _, _, h => h.elim
  | n + 1, 0, h, _, _, _, _, _ => absurd h (by omega)
  | n + 1, m + 1, hnm, w, ok, p, cs, ⟨A, c, he, h⟩ => ⟨A, c, he, h.swap ((ptD_sz n).trans (ptD_sz m).symm) fun x _ cs hx => ptD_mono n m (by omega) hx⟩
/-- A tree. -/
def El.pt : El Pt where
  sz := 3
  pos := by decide
  P := fun w ok p cs => ∃ n, (El.ptD n).P w ok p cs
  len := by rintro w ok x cs ⟨n, h⟩; exact ((El.ptD n).len h).trans (ptD_sz n)
  one := by rintro w ok x cs ⟨n, h⟩; exact (El.ptD n).one h
  move := by rintro w w' ok x cs hk ⟨n, h⟩; exact ⟨n, (El.ptD n).move hk h⟩
  mono := by rintro w ok ok' x cs hk ⟨n, h⟩; exact ⟨n, (El.ptD n).mono hk h⟩
theorem all2_depth {w : World} {ok : Nat → Prop} : ∀ {ps : List Pt} {css : List (List Value)}, All2 (El.pt.P w ok) ps css → ∃ n, All2 ((El.ptD n).P w ok) ps css
  | _, _, .nil => ⟨0, .nil⟩
  | _, _, .cons ⟨n, a⟩ b => by
    obtain ⟨m, hm⟩ := all2_depth b
    exact ⟨max n m, .cons (ptD_mono n _ (Nat.le_max_left _ _) a) (forall2_imp (fun _ _ h => ptD_mono m _ (Nat.le_max_right _ _) h) hm)⟩
/-- A tree's cells, and its parts' row. -/
theorem El.pt_iff {w : World} {ok : Nat → Prop} {p : Pt} {cs : List Value} : El.pt.P w ok p cs ↔ ∃ A c, cs = [.int .u8 p.op, .int .i64 p.pl, .slice A p.kids.length c] ∧ Rds El.pt w ok (.slice A p.kids.length c) p.kids := by
  constructor
  · rintro ⟨n, h⟩
    cases n with
    | zero => exact h.elim
    | succ n =>
      obtain ⟨A, c, he, hr⟩ := h
      exact ⟨A, c, he, hr.swap (ptD_sz n) fun x _ cs hx => ⟨n, hx⟩⟩
  · rintro ⟨A, c, he, css, h1, h2⟩
    obtain ⟨n, hn⟩ := all2_depth h2
    exact ⟨n + 1, A, c, he, css, by rw [ptD_sz]; exact h1, hn⟩
/-- A row of the call's own (of elements of type e), from base on, whose elements lead elsewhere. -/
def Own {α : Type} (d : El α) (w : World) (e : TypeId) (v : Value) (xs : List α) : Prop :=
  ∃ css : List (List Value), Row w e d.sz v xs.length css.flatten ∧ All2 (d.P w fun b => ¬ Fp v b) xs css
section
variable {α : Type} {d : El α} {w w' : World} {e : TypeId} {v : Value} {xs : List α}
theorem Own.nil (d : El α) (w : World) (e : TypeId) : Own d w e (.slice none 0 0) [] := ⟨[], Row.nil _ _ _, .nil⟩
theorem Own.below (h : Own d w e v xs) (hb : Below w.heap.size w w') : Own d w' e v xs := by
  obtain ⟨css, h1, h2⟩ := h
  exact ⟨css, h1.below hb, forall2_imp (fun _ _ h => El.below h hb) h2⟩
theorem Own.slice_ (h : Own d w e v xs) : ∃ A c, v = .slice A xs.length c ∧ xs.length ≤ c := by
  obtain ⟨css, h1, _⟩ := h
  exact h1.slice_
theorem Own.rds (h : Own d w e v xs) : Rds d w (fun _ => True) v xs := by
  obtain ⟨css, h1, h2⟩ := h
  exact ⟨css, h1.rd fun _ _ => trivial, forall2_imp (fun _ _ h => d.mono (fun _ _ _ => trivial) h) h2⟩
theorem flatten_app (a b : List (List Value)) : (a ++ b).flatten = a.flatten ++ b.flatten := by simp
/-- Behind an append: the elements, and the new ones. -/
theorem Own.grown {v' : Value} {ys : List α} {css dss : List (List Value)} {m : Nat} (h2 : All2 (d.P w fun b => ¬ Fp v b) xs css) (hy : All2 (d.P w fun b => ¬ Fp v b) ys dss)
    (hrow : Row w' e d.sz v' m (css.flatten ++ dss.flatten)) (hm : m = (xs ++ ys).length) (ho : Only (Fp v) w w') (hf : ∀ b, Fp v' b → Fp v b ∨ w.heap.size ≤ b) : Own d w' e v' (xs ++ ys) := by
  subst hm
  have go : ∀ {zs : List α} {ess : List (List Value)}, All2 (d.P w fun b => ¬ Fp v b) zs ess → All2 (d.P w' fun b => ¬ Fp v' b) zs ess := fun h =>
    forall2_imp (fun _ _ h => by
      have h' := d.mono (ok' := fun b => ¬ Fp v b ∧ b < w.heap.size) (fun b h1 h2 => ⟨h1, h2⟩) h
      have h'' := d.move (w' := w') (fun b hb hlt => ho.block b hlt hb.1) h'
      refine d.mono (fun b hb _ hfv => ?_) h''
      rcases hf b hfv with h3 | h3
      · exact hb.1 h3
      · exact absurd hb.2 (Nat.not_lt.2 h3)) h
  exact ⟨css ++ dss, by rw [flatten_app]; exact hrow, forall2_app (go hy) (go h2)⟩
end
end Go.Proofs.Ytbobjecjopmnfaa
