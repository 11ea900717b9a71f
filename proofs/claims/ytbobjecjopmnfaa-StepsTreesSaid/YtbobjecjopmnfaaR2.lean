/- Trees, rows of integers, rows of trees that came in, laid open. -/
import Derived.Test.YtbobjecjopmnfaaJ3
import Derived.Test.YtbobjecjopmnfaaRows
import Derived.ProofKit
import Derived.Deep.Slices
import Derived.ChangeSame
namespace Go.Proofs.Ytbobjecjopmnfaa
open Go.RowKit Go.ChangeShapes Go.WideShapes Go.Deep
theorem flat_len2 {α : Type} {f : α → List Value} {sz : Nat} (hf : ∀ a, (f a).length = sz) (l : List α) : (l.flatMap f).length = l.length * sz := by
  induction l with
  | nil => simp
  | cons e l ih => rw [List.flatMap_cons, List.length_append, ih, List.length_cons, hf, Nat.succ_mul]; omega
theorem flat_get2 {α : Type} {f : α → List Value} {sz : Nat} (hf : ∀ a, (f a).length = sz) (l : List α) (j i : Nat) (hj : j < l.length) (hi : i < sz) : (l.flatMap f)[j * sz + i]? = (f l[j])[i]? := by
  induction l generalizing j with
  | nil => exact absurd hj (by simp)
  | cons e l ih =>
    rw [List.flatMap_cons]
    cases j with
    | zero => rw [Nat.zero_mul, Nat.zero_add, List.getElem?_append_left (by rw [hf]; exact hi)]; rfl
    | succ j =>
      rw [List.getElem?_append_right (by rw [hf, Nat.succ_mul]; omega), hf, show (j + 1) * sz + i - sz = j * sz + i by rw [Nat.succ_mul]; omega]
      exact ih j (by simpa using hj)
theorem all2_pick {α : Type} {d : El α} {w : World} : ∀ (l : List {cs : List Value // cs.length = d.sz ∧ ∃ a, d.P w (fun _ => True) a cs}), ∃ xs : List α, xs.length = l.length ∧ All2 (d.P w fun _ => True) xs (l.map (·.1))
  | [] => ⟨[], rfl, .nil⟩
  | ⟨_, _, a, ha⟩ :: l => by
    obtain ⟨xs, h1, h2⟩ := all2_pick l
    exact ⟨a :: xs, by simp [h1], .cons ha h2⟩
section
variable {H : Type} {enc : TypeId × Value → H} {w : World} {base : Nat} {spare : Nat → Bool} {held : Bool} {fuel : Nat}
theorem rds_cells {α : Type} {d : El α} {t e : TypeId} {cs : List Value} {x : DataW H × List MemPlace} (ht : Try.prog.underlying t = some (.slice e)) (hC : Try.prog.cellsOf e = d.sz)
    (hp : ∀ n cs y, DataW.trod enc Try.prog w base spare held n e cs = some y → ∃ a, d.P w (fun _ => True) a cs) (h : DataW.trod enc Try.prog w base spare held fuel t cs = some x) :
    ∃ (A : Option Addr) (c : Nat) (l : List α), cs = [.slice A l.length c] ∧ Rds d w (fun _ => True) (.slice A l.length c) l := by
  rcases open_slice ht h with ⟨rfl, -⟩ | ⟨a, len, cap, m, n, D, Pl, rfl, hb, hl, hm, hmm, -, hi⟩
  · exact ⟨none, 0, [], rfl, Rds.nil⟩
  · have hlm : len ≤ m := by rw [hmm]; split <;> omega
    have hs := d.pos
    have key : ∀ i : Fin len, ∃ y : {cs : List Value // cs.length = d.sz ∧ ∃ a, d.P w (fun _ => True) a cs}, ∀ j, j < d.sz → w.cell? (a.add (i.1 * d.sz + j)) = y.1[j]? := fun i => by
      obtain ⟨cs', h1, h2⟩ := hi i.1 (Nat.lt_of_lt_of_le i.2 hlm)
      obtain ⟨y, hy⟩ := hp _ _ _ h2
      rw [hC] at h1
      obtain ⟨_, _, hk⟩ := World.cells?_some h1
      exact ⟨⟨cs', d.len hy, y, hy⟩, fun j hj => by rw [← Ytbobjecjopmnfaa.add_add]; exact hk j hj⟩
    obtain ⟨g, hg⟩ := Classical.axiomOfChoice key
    obtain ⟨xs, hx1, hx2⟩ := all2_pick (List.ofFn g)
    have hf : ∀ y : {cs : List Value // cs.length = d.sz ∧ ∃ a, d.P w (fun _ => True) a cs}, y.1.length = d.sz := fun y => y.2.1
    have hlen : xs.length = len := by rw [hx1, List.length_ofFn]
    refine ⟨some a, cap, xs, by rw [hlen], (List.ofFn g).map (·.1), ?_, hx2⟩
    rw [hlen]
    have hfl : ((List.ofFn g).map (·.1)).flatten = (List.ofFn g).flatMap (·.1) := by rw [List.flatMap_def]
    rw [hfl]
    refine ⟨by rw [flat_len2 hf]; simp, some a, cap, rfl, hl, fun hpos => ⟨a, rfl, trivial, fun j u hu => ?_⟩⟩
    have hj := (List.getElem?_eq_some_iff.1 hu).1
    rw [flat_len2 hf, List.length_ofFn] at hj
    have hjd : j / d.sz < len := Nat.div_lt_of_lt_mul (by rw [Nat.mul_comm]; exact hj)
    have hjm : j % d.sz < d.sz := Nat.mod_lt _ hs
    have hjj : j / d.sz * d.sz + j % d.sz = j := by rw [Nat.mul_comm]; exact Nat.div_add_mod j d.sz
    have h3 := hg ⟨j / d.sz, hjd⟩ (j % d.sz) hjm
    have h4 := flat_get2 hf (List.ofFn g) (j / d.sz) (j % d.sz) (by simpa using hjd) hjm
    rw [hjj] at h3 h4
    rw [h3, ← hu, h4, List.getElem_ofFn]
theorem list3 {cs : List Value} (h : cs.length = 3) : ∃ a b c, cs = [a, b, c] := by
  match cs, h with
  | [a, b, c], _ => exact ⟨a, b, c, rfl⟩
theorem list1 {cs : List Value} (h : cs.length = 1) : ∃ a, cs = [a] := by
  match cs, h with
  | [a], _ => exact ⟨a, rfl⟩
theorem some_at2 {α : Type} {xs : List α} {n i : Nat} (h : xs.length = n) (hi : i < n) : ∃ y, xs[i]? = some y := ⟨xs[i]'(by omega), List.getElem?_eq_getElem (by omega)⟩
theorem k5 : Try.prog.cellsOf 5 = 1 := by kernel_rfl
theorem k3 : Try.prog.cellsOf 3 = 1 := by kernel_rfl
theorem k36 : Try.prog.cellsOf 36 = 1 := by kernel_rfl
theorem k57 : Try.prog.cellsOf 57 = 1 := by kernel_rfl
theorem k59 : Try.prog.cellsOf 59 = 1 := by kernel_rfl
theorem k76 : Try.prog.cellsOf 76 = 3 := by kernel_rfl
theorem int_cells {n : Nat} {cs : List Value} {x : DataW H × List MemPlace} (h : DataW.trod enc Try.prog w base spare held n 3 cs = some x) : ∃ a, El.int.P w (fun _ => True) a cs := by
  obtain ⟨k, e0, -, -⟩ := DataW.trod_int Try.underlying3 h
  exact ⟨k, e0⟩
theorem ints_cells {n : Nat} {cs : List Value} {x : DataW H × List MemPlace} (h : DataW.trod enc Try.prog w base spare held n 36 cs = some x) : ∃ (A : Option Addr) (c : Nat) (l : List Int), cs = [.slice A l.length c] ∧ Rds El.int w (fun _ => True) (.slice A l.length c) l :=
  rds_cells Try.underlying36 k3 (fun _ _ _ h => int_cells h) h
theorem nd_cells {n : Nat} {cs : List Value} {x : DataW H × List MemPlace} (h : DataW.trod enc Try.prog w base spare held n 76 cs = some x) : ∃ a, El.nd.P w (fun _ => True) a cs := by
  obtain ⟨xs, n', _, _, hlen, hx, hg⟩ := DataW.trod_struct Try.underlying76 h
  clear h
  obtain ⟨v0, v1, v2, rfl⟩ := list3 (hlen.trans k76)
  obtain ⟨y0, z0⟩ := some_at2 (i := 0) hx (by decide)
  obtain ⟨y1, z1⟩ := some_at2 (i := 1) hx (by decide)
  obtain ⟨y2, z2⟩ := some_at2 (i := 2) hx (by decide)
  have g0 : DataW.trod enc Try.prog w base spare held n' 5 (List.take (Try.prog.cellsOf 5) (List.drop 0 [v0, v1, v2])) = some y0 := (hg 0 _ rfl).trans z0
  have g1 : DataW.trod enc Try.prog w base spare held n' 3 (List.take (Try.prog.cellsOf 3) (List.drop 1 [v0, v1, v2])) = some y1 := (hg 1 _ rfl).trans z1
  have g2 : DataW.trod enc Try.prog w base spare held n' 36 (List.take (Try.prog.cellsOf 36) (List.drop 2 [v0, v1, v2])) = some y2 := (hg 2 _ rfl).trans z2
  clear hg
  simp only [k5, k3, k36] at g0 g1 g2
  obtain ⟨a, e0, -, -⟩ := DataW.trod_int Try.underlying5 g0
  obtain ⟨b, e1, -, -⟩ := DataW.trod_int Try.underlying3 g1
  obtain ⟨A, c, l, e2, hl⟩ := ints_cells g2
  simp at e0 e1 e2
  subst e0; subst e1; subst e2
  exact ⟨⟨a, b, l⟩, A, c, rfl, hl⟩
theorem nds_cells {n : Nat} {cs : List Value} {x : DataW H × List MemPlace} (h : DataW.trod enc Try.prog w base spare held n 57 cs = some x) : ∃ (A : Option Addr) (c : Nat) (l : List Nd), cs = [.slice A l.length c] ∧ Rds El.nd w (fun _ => True) (.slice A l.length c) l :=
  rds_cells Try.underlying57 k76 (fun _ _ _ h => nd_cells h) h
theorem tree_cells {n : Nat} {cs : List Value} {x : DataW H × List MemPlace} (h : DataW.trod enc Try.prog w base spare held n 59 cs = some x) : ∃ (A : Option Addr) (c : Nat) (l : List Nd), cs = [.slice A l.length c] ∧ Rds El.nd w (fun _ => True) (.slice A l.length c) l := by
  obtain ⟨xs, n', _, _, hlen, hx, hg⟩ := DataW.trod_struct Try.underlying59 h
  clear h
  obtain ⟨v0, rfl⟩ := list1 (hlen.trans k59)
  obtain ⟨y0, z0⟩ := some_at2 (i := 0) hx (by decide)
  have g0 : DataW.trod enc Try.prog w base spare held n' 57 (List.take (Try.prog.cellsOf 57) (List.drop 0 [v0])) = some y0 := (hg 0 _ rfl).trans z0
  simp only [k57] at g0
  obtain ⟨A, c, l, e, hl⟩ := nds_cells g0
  simp at e
  subst e
  exact ⟨A, c, l, rfl, hl⟩
theorem trees_cells {n : Nat} {cs : List Value} {x : DataW H × List MemPlace} (h : DataW.trod enc Try.prog w base spare held n 79 cs = some x) : ∃ (A : Option Addr) (c : Nat) (l : List (List Nd)), cs = [.slice A l.length c] ∧ Rds (El.row El.nd) w (fun _ => True) (.slice A l.length c) l :=
  rds_cells Try.underlying79 k59 (fun _ _ _ h => by
    obtain ⟨A, c, l, e, hl⟩ := tree_cells h
    exact ⟨l, A, c, e, hl⟩) h
end
end Go.Proofs.Ytbobjecjopmnfaa
