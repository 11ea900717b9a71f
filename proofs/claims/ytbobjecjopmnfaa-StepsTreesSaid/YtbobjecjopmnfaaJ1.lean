/- Rows within rows: elements that are read, and rows of the call's own that hold them. -/
import Derived.Test.YtbobjecjopmnfaaC9
import Derived.Test.YtbobjecjopmnfaaH6
namespace Go.Proofs.Ytbobjecjopmnfaa
open Go.RowKit
inductive All2 {β γ : Type} (R : β → γ → Prop) : List β → List γ → Prop
  | nil : All2 R [] []
  | cons {a : β} {b : γ} {l : List β} {m : List γ} : R a b → All2 R l m → All2 R (a :: l) (b :: m)
/-- What an element's cells are; the blocks that it leads to are ok. -/
structure El (α : Type) where
  sz : Nat
  pos : 0 < sz
  P : World → (Nat → Prop) → α → List Value → Prop
  len : ∀ {w ok x cs}, P w ok x cs → cs.length = sz
  one : ∀ {w ok x cs}, P w ok x cs → ∀ u ∈ cs, u.oneCell' = true
  move : ∀ {w w' : World} {ok x cs}, (∀ b, ok b → b < w.heap.size → w'.heap[b]? = w.heap[b]?) → P w ok x cs → P w' ok x cs
  mono : ∀ {w : World} {ok ok' x cs}, (∀ b, ok b → b < w.heap.size → ok' b) → P w ok x cs → P w ok' x cs
theorem Rd.bound {w : World} {ok ok' : Nat → Prop} {sz n : Nat} {v : Value} {xs : List Value} (hs : 0 < sz) (hk : ∀ b, ok b → b < w.heap.size → ok' b) (h : Rd w ok sz v n xs) : Rd w ok' sz v n xs := by
  obtain ⟨hl, A, c, he, hc, hr⟩ := h
  refine ⟨hl, A, c, he, hc, fun hn => ?_⟩
  obtain ⟨ad, ha, hok, hcells⟩ := hr hn
  refine ⟨ad, ha, hk _ hok ?_, hcells⟩
  have hpos : 0 < xs.length := by rw [hl]; exact Nat.mul_pos hn hs
  have h0 := World.block_lt_of_cell? w _ (hcells 0 xs[0] (by simp [hpos]))
  rwa [add_block] at h0
/-- A row of elements that is read. -/
def Rds {α : Type} (d : El α) (w : World) (ok : Nat → Prop) (v : Value) (xs : List α) : Prop :=
  ∃ css : List (List Value), Rd w ok d.sz v xs.length css.flatten ∧ All2 (d.P w ok) xs css
section
variable {α : Type} {d : El α} {w w' : World} {ok ok' : Nat → Prop} {v : Value} {xs : List α}
theorem forall2_imp {β γ : Type} {R S : β → γ → Prop} (h : ∀ a b, R a b → S a b) : ∀ {l : List β} {m : List γ}, All2 R l m → All2 S l m
  | _, _, .nil => .nil
  | _, _, .cons a b => .cons (h _ _ a) (forall2_imp h b)
theorem forall2_len {β γ : Type} {R : β → γ → Prop} : ∀ {l : List β} {m : List γ}, All2 R l m → l.length = m.length
  | _, _, .nil => rfl
  | _, _, .cons _ b => by simp [forall2_len b]
theorem forall2_app {β γ : Type} {R : β → γ → Prop} {m' : List β} {n' : List γ} (k : All2 R m' n') : ∀ {l : List β} {m : List γ}, All2 R l m → All2 R (l ++ m') (m ++ n')
  | _, _, .nil => k
  | _, _, .cons a b => .cons a (forall2_app k b)
theorem forall2_at {β γ : Type} {R : β → γ → Prop} : ∀ {l : List β} {m : List γ}, All2 R l m → ∀ i (h : i < l.length), ∃ b, m[i]? = some b ∧ R l[i] b
  | _, _, .nil, i, h => absurd h (by simp)
  | _, _, .cons (b := b) a t, 0, _ => ⟨b, rfl, a⟩
  | _, _, .cons a t, i + 1, h => by
    obtain ⟨b, h1, h2⟩ := forall2_at t i (by simpa using h)
    exact ⟨b, by simpa using h1, by simpa using h2⟩
theorem Rds.move (hk : ∀ b, ok b → b < w.heap.size → w'.heap[b]? = w.heap[b]?) (h : Rds d w ok v xs) : Rds d w' ok v xs := by
  obtain ⟨css, h1, h2⟩ := h
  exact ⟨css, h1.keep hk, forall2_imp (fun _ _ h => d.move hk h) h2⟩
theorem Rds.mono (hk : ∀ b, ok b → b < w.heap.size → ok' b) (h : Rds d w ok v xs) : Rds d w ok' v xs := by
  obtain ⟨css, h1, h2⟩ := h
  exact ⟨css, h1.bound d.pos hk, forall2_imp (fun _ _ h => d.mono hk h) h2⟩
theorem Rds.below (h : Rds d w ok v xs) (hb : Below w.heap.size w w') : Rds d w' ok v xs := h.move fun b _ hlt => hb.block b hlt
theorem El.below {x : α} {cs : List Value} (h : d.P w ok x cs) (hb : Below w.heap.size w w') : d.P w' ok x cs := d.move (fun b _ hlt => hb.block b hlt) h
theorem Rds.nil : Rds d w ok (.slice none 0 0) [] := ⟨[], Rd.nil _ _ _, .nil⟩
theorem Rds.slice_ (h : Rds d w ok v xs) : ∃ A c, v = .slice A xs.length c ∧ xs.length ≤ c := by
  obtain ⟨css, h1, _⟩ := h
  exact h1.slice_
theorem flatten_length : ∀ {xs : List α} {css : List (List Value)}, All2 (d.P w ok) xs css → css.flatten.length = xs.length * d.sz
  | _, _, .nil => by simp
  | _, _, .cons a b => by rw [List.flatten_cons, List.length_append, d.len a, flatten_length b, List.length_cons, Nat.succ_mul]; omega
theorem flatten_at : ∀ {xs : List α} {css : List (List Value)}, All2 (d.P w ok) xs css → ∀ (i j : Nat) (cs : List Value), css[i]? = some cs → j < d.sz → css.flatten[i * d.sz + j]? = cs[j]?
  | _, _, .nil, i, j, cs, h, _ => by simp at h
  | _, _, .cons a b, 0, j, cs, h, hj => by
    simp at h
    subst h
    rw [List.flatten_cons, List.getElem?_append_left (by rw [d.len a]; omega), Nat.zero_mul, Nat.zero_add]
  | _, _, .cons a b, i + 1, j, cs, h, hj => by
    rw [List.flatten_cons, List.getElem?_append_right (by rw [d.len a, Nat.succ_mul]; omega), d.len a, show (i + 1) * d.sz + j - d.sz = i * d.sz + j by rw [Nat.succ_mul]; omega]
    exact flatten_at b i j cs (by simpa using h) hj
/-- One element of a row. -/
theorem Rds.get {A : Option Addr} {n c : Nat} (h : Rds d w ok (.slice A n c) xs) (i : Nat) (hi : i < xs.length) :
    ∃ ad cs, A = some ad ∧ ok ad.block ∧ ad.block < w.heap.size ∧ d.P w ok xs[i] cs ∧ ∀ j u, cs[j]? = some u → w.cell? (ad.add (i * d.sz + j)) = some u := by
  obtain ⟨css, ⟨hl, A', c', he, _, hr⟩, h2⟩ := h
  injection he with e1 _ _
  subst e1
  obtain ⟨ad, rfl, hok, hcells⟩ := hr (by omega)
  obtain ⟨cs, hc, hp⟩ := forall2_at h2 i hi
  have key : ∀ j u, cs[j]? = some u → w.cell? (ad.add (i * d.sz + j)) = some u := fun j u hu => by
    have hj : j < d.sz := by rw [← d.len hp]; exact (List.getElem?_eq_some_iff.1 hu).1
    exact hcells _ u ((flatten_at h2 i j cs hc hj).trans hu)
  refine ⟨ad, cs, rfl, hok, ?_, hp, key⟩
  have h0 : 0 < cs.length := by rw [d.len hp]; exact d.pos
  have := World.block_lt_of_cell? w _ (key 0 cs[0] (by simp [h0]))
  rwa [add_block] at this
end
/-- Rows as elements. -/
def El.row {α : Type} (d : El α) : El (List α) where
  sz := 1
  pos := by decide
  P := fun w ok xs cs => ∃ A c, cs = [.slice A xs.length c] ∧ Rds d w ok (.slice A xs.length c) xs
  len := by rintro w ok x cs ⟨A, c, rfl, _⟩; rfl
  one := by
    rintro w ok x cs ⟨A, c, rfl, _⟩ u hu
    rw [List.mem_singleton] at hu
    subst hu
    rfl
  move := by rintro w w' ok x cs hk ⟨A, c, he, h⟩; exact ⟨A, c, he, h.move hk⟩
  mono := by rintro w ok ok' x cs hk ⟨A, c, he, h⟩; exact ⟨A, c, he, h.mono hk⟩
def El.int : El Int where
  sz := 1
  pos := by decide
  P := fun _ _ x cs => cs = [.int .i64 x]
  len := by rintro w ok x cs rfl; rfl
  one := by
    rintro w ok x cs rfl u hu
    rw [List.mem_singleton] at hu
    subst hu
    rfl
  move := by intro w w' ok x cs _ h; exact h
  mono := by intro w ok ok' x cs _ h; exact h
def El.nd : El Nd where
  sz := 3
  pos := by decide
  P := fun w ok n cs => ∃ A c, cs = [.int .u8 n.op, .int .i64 n.pl, .slice A n.kids.length c] ∧ Rds El.int w ok (.slice A n.kids.length c) n.kids
  len := by rintro w ok x cs ⟨A, c, rfl, _⟩; rfl
  one := by
    rintro w ok x cs ⟨A, c, rfl, _⟩ u hu
    simp at hu
    rcases hu with rfl | rfl | rfl <;> rfl
  move := by rintro w w' ok x cs hk ⟨A, c, he, h⟩; exact ⟨A, c, he, h.move hk⟩
  mono := by rintro w ok ok' x cs hk ⟨A, c, he, h⟩; exact ⟨A, c, he, h.mono hk⟩
end Go.Proofs.Ytbobjecjopmnfaa
