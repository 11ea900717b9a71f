/- Slices of events and of acts that came in, laid open. -/
import Derived.Test.YtbobjecjopmnfaaF1
import Derived.Test.YtbobjecjopmnfaaRows
import Derived.ProofKit
import Derived.Deep.Slices
import Derived.ChangeSame
namespace Go.Proofs.Ytbobjecjopmnfaa
open Go.RowKit Go.ChangeShapes Go.WideShapes Go.Deep
theorem flat_length {α : Type} {f : α → List Value} {sz : Nat} (hf : ∀ a, (f a).length = sz) (l : List α) : (l.flatMap f).length = l.length * sz := by
  induction l with
  | nil => simp
  | cons e l ih => rw [List.flatMap_cons, List.length_append, ih, List.length_cons, hf, Nat.succ_mul]; omega
theorem flat_get {α : Type} {f : α → List Value} {sz : Nat} (hf : ∀ a, (f a).length = sz) (l : List α) (j i : Nat) (hj : j < l.length) (hi : i < sz) : (l.flatMap f)[j * sz + i]? = (f l[j])[i]? := by
  induction l generalizing j with
  | nil => exact absurd hj (by simp)
  | cons e l ih =>
    rw [List.flatMap_cons]
    cases j with
    | zero => rw [Nat.zero_mul, Nat.zero_add, List.getElem?_append_left (by rw [hf]; exact hi)]; rfl
    | succ j =>
      rw [List.getElem?_append_right (by rw [hf, Nat.succ_mul]; omega), hf, show (j + 1) * sz + i - sz = j * sz + i by rw [Nat.succ_mul]; omega]
      exact ih j (by simpa using hj)
section
variable {H : Type} {enc : TypeId × Value → H} {w : World} {base : Nat} {spare : Nat → Bool} {held : Bool} {fuel : Nat}
theorem rd_open {α : Type} {f : α → List Value} {sz : Nat} {t e : TypeId} {A : Option Addr} {len cap : Nat} {x : DataW H × List MemPlace} (hs : 0 < sz) (hf : ∀ a, (f a).length = sz) (ht : Try.prog.underlying t = some (.slice e)) (hC : Try.prog.cellsOf e = sz)
    (hp : ∀ n cs y, DataW.trod enc Try.prog w base spare held n e cs = some y → ∃ a, cs = f a) (h : DataW.trod enc Try.prog w base spare held fuel t [.slice A len cap] = some x) :
    ∃ l : List α, l.length = len ∧ Rd w (fun _ => True) sz (.slice A len cap) len (l.flatMap f) := by
  rcases open_slice ht h with ⟨hcs, -⟩ | ⟨a, len', cap', m, n, D, Pl, hcs, hb, hl, hm, hmm, -, hi⟩
  · simp at hcs
    obtain ⟨rfl, rfl, rfl⟩ := hcs
    exact ⟨[], rfl, Rd.nil _ _ _⟩
  · simp at hcs
    obtain ⟨rfl, rfl, rfl⟩ := hcs
    have hlm : len ≤ m := by rw [hmm]; split <;> omega
    have key : ∀ i : Fin len, ∃ y : α, ∀ j, j < sz → w.cell? (a.add (i.1 * sz + j)) = (f y)[j]? := fun i => by
      obtain ⟨cs', h1, h2⟩ := hi i.1 (Nat.lt_of_lt_of_le i.2 hlm)
      obtain ⟨y, rfl⟩ := hp _ _ _ h2
      rw [hC] at h1
      obtain ⟨_, _, hk⟩ := World.cells?_some h1
      exact ⟨y, fun j hj => by rw [← Ytbobjecjopmnfaa.add_add]; exact hk j hj⟩
    obtain ⟨g, hg⟩ := Classical.axiomOfChoice key
    refine ⟨List.ofFn g, by simp, by rw [flat_length hf]; simp, some a, cap, rfl, hl, fun hpos => ⟨a, rfl, trivial, fun j u hu => ?_⟩⟩
    have hj := (List.getElem?_eq_some_iff.1 hu).1
    rw [flat_length hf, List.length_ofFn] at hj
    have hjd : j / sz < len := Nat.div_lt_of_lt_mul (by rw [Nat.mul_comm]; exact hj)
    have hjm : j % sz < sz := Nat.mod_lt _ hs
    have hjj : j / sz * sz + j % sz = j := by rw [Nat.mul_comm]; exact Nat.div_add_mod j sz
    have h3 := hg ⟨j / sz, hjd⟩ (j % sz) hjm
    have h4 := flat_get hf (List.ofFn g) (j / sz) (j % sz) (by simpa using hjd) hjm
    rw [hjj] at h3 h4
    rw [h3, ← hu, h4, List.getElem_ofFn]
theorem list4 {cs : List Value} (h : cs.length = 4) : ∃ a b c d, cs = [a, b, c, d] := by
  match cs, h with
  | [a, b, c, d], _ => exact ⟨a, b, c, d, rfl⟩
theorem list5 {cs : List Value} (h : cs.length = 5) : ∃ a b c d e, cs = [a, b, c, d, e] := by
  match cs, h with
  | [a, b, c, d, e], _ => exact ⟨a, b, c, d, e, rfl⟩
theorem some_at {α : Type} {xs : List α} {n i : Nat} (h : xs.length = n) (hi : i < n) : ∃ y, xs[i]? = some y := ⟨xs[i]'(by omega), List.getElem?_eq_getElem (by omega)⟩
theorem c5 : Try.prog.cellsOf 5 = 1 := by kernel_rfl
theorem c9 : Try.prog.cellsOf 9 = 1 := by kernel_rfl
theorem c2_ : Try.prog.cellsOf 2 = 1 := by kernel_rfl
theorem c3_ : Try.prog.cellsOf 3 = 1 := by kernel_rfl
theorem c31 : Try.prog.cellsOf 31 = 4 := by kernel_rfl
theorem c33 : Try.prog.cellsOf 33 = 5 := by kernel_rfl
theorem ev_cells {n : Nat} {cs : List Value} {x : DataW H × List MemPlace} (h : DataW.trod enc Try.prog w base spare held n 31 cs = some x) : ∃ e : Ev, cs = e.cs := by
  obtain ⟨xs, n', _, _, hlen, hx, hg⟩ := DataW.trod_struct Try.underlying31 h
  clear h
  obtain ⟨v0, v1, v2, v3, rfl⟩ := list4 (hlen.trans c31)
  obtain ⟨y0, z0⟩ := some_at (i := 0) hx (by decide)
  obtain ⟨y1, z1⟩ := some_at (i := 1) hx (by decide)
  obtain ⟨y2, z2⟩ := some_at (i := 2) hx (by decide)
  obtain ⟨y3, z3⟩ := some_at (i := 3) hx (by decide)
  have g0 : DataW.trod enc Try.prog w base spare held n' 5 (List.take (Try.prog.cellsOf 5) (List.drop 0 [v0, v1, v2, v3])) = some y0 := (hg 0 _ rfl).trans z0
  have g1 : DataW.trod enc Try.prog w base spare held n' 9 (List.take (Try.prog.cellsOf 9) (List.drop 1 [v0, v1, v2, v3])) = some y1 := (hg 1 _ rfl).trans z1
  have g2 : DataW.trod enc Try.prog w base spare held n' 2 (List.take (Try.prog.cellsOf 2) (List.drop 2 [v0, v1, v2, v3])) = some y2 := (hg 2 _ rfl).trans z2
  have g3 : DataW.trod enc Try.prog w base spare held n' 3 (List.take (Try.prog.cellsOf 3) (List.drop 3 [v0, v1, v2, v3])) = some y3 := (hg 3 _ rfl).trans z3
  clear hg
  simp only [c5, c9, c2_, c3_] at g0 g1 g2 g3
  obtain ⟨k, e0, -, -⟩ := DataW.trod_int Try.underlying5 g0
  obtain ⟨nm, e1, -, -⟩ := DataW.trod_string Try.underlying9 g1
  obtain ⟨ar, e2, -, -⟩ := DataW.trod_int Try.underlying2 g2
  obtain ⟨pl, e3, -, -⟩ := DataW.trod_int Try.underlying3 g3
  simp at e0 e1 e2 e3
  subst e0; subst e1; subst e2; subst e3
  exact ⟨⟨k, nm, ar, pl⟩, rfl⟩
theorem act_cells {n : Nat} {cs : List Value} {x : DataW H × List MemPlace} (h : DataW.trod enc Try.prog w base spare held n 33 cs = some x) : ∃ a : Act, cs = a.cs := by
  obtain ⟨xs, n', _, _, hlen, hx, hg⟩ := DataW.trod_struct Try.underlying33 h
  clear h
  obtain ⟨v0, v1, v2, v3, v4, rfl⟩ := list5 (hlen.trans c33)
  obtain ⟨y0, z0⟩ := some_at (i := 0) hx (by decide)
  obtain ⟨y1, z1⟩ := some_at (i := 1) hx (by decide)
  have g0 : DataW.trod enc Try.prog w base spare held n' 3 (List.take (Try.prog.cellsOf 3) (List.drop 0 [v0, v1, v2, v3, v4])) = some y0 := (hg 0 _ rfl).trans z0
  have g1 : DataW.trod enc Try.prog w base spare held n' 31 (List.take (Try.prog.cellsOf 31) (List.drop 1 [v0, v1, v2, v3, v4])) = some y1 := (hg 1 _ rfl).trans z1
  clear hg
  simp only [c3_, c31] at g0 g1
  obtain ⟨kd, e0, -, -⟩ := DataW.trod_int Try.underlying3 g0
  obtain ⟨⟨k, nm, ar, pl⟩, e1⟩ := ev_cells g1
  simp [Ev.cs] at e0 e1
  obtain ⟨rfl, rfl, rfl, rfl⟩ := e1
  subst e0
  exact ⟨⟨kd, ⟨k, nm, ar, pl⟩⟩, rfl⟩
theorem rd_acts {A : Option Addr} {len cap : Nat} {x : DataW H × List MemPlace} (h : DataW.trod enc Try.prog w base spare held fuel 22 [.slice A len cap] = some x) :
    ∃ l : List Act, l.length = len ∧ Rd w (fun _ => True) 5 (.slice A len cap) len (acells l) :=
  rd_open (f := Act.cs) (by decide) (fun _ => rfl) Try.underlying22 (by kernel_rfl) (fun _ _ _ h => act_cells h) h
theorem rd_evs {A : Option Addr} {len cap : Nat} {x : DataW H × List MemPlace} (h : DataW.trod enc Try.prog w base spare held fuel 41 [.slice A len cap] = some x) :
    ∃ l : List Ev, l.length = len ∧ Rd w (fun _ => True) 4 (.slice A len cap) len (cells l) :=
  rd_open (f := Ev.cs) (by decide) (fun _ => rfl) Try.underlying41 (by kernel_rfl) (fun _ _ _ h => ev_cells h) h
end
end Go.Proofs.Ytbobjecjopmnfaa
