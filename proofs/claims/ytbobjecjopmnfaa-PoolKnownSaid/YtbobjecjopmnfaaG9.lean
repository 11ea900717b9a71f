/- The walk of PoolKnown. -/
import Derived.Test.YtbobjecjopmnfaaG4
import Derived.Test.YtbobjecjopmnfaaG5
import Derived.Test.YtbobjecjopmnfaaG6
import Derived.Test.YtbobjecjopmnfaaG8
import Derived.StillTailTactics
namespace Go.Proofs.Ytbobjecjopmnfaa
open Go.RowKit
/-- A block whose cells are known reads as a slice. -/
theorem rd_block {w : World} {g t n sz : Nat} {cs : Array Value} (h : w.heap[g]? = some (.cells cs t (0, 0))) (hn : cs.size = n * sz) : Rd w (fun _ => True) sz (.slice (some ⟨g, 0, none⟩) n n) n cs.toList :=
  ⟨by simpa using hn, _, _, rfl, Nat.le_refl _, fun _ => ⟨_, rfl, trivial, fun j u hu => by rw [add_at, blk_cell h]; simpa using hu⟩⟩
theorem Rd.at0 {w : World} {ok : Nat → Prop} {l : List Ev} {g c n : Nat} (h : Rd w ok 4 (.slice (some ⟨g, 0, none⟩) n c) n (cells l)) (k : Nat) (hk : k < l.length) (hn : 0 < n) :
    w.cell? ⟨g, k * 4, none⟩ = some (.int .u8 l[k].k) ∧ w.cell? ⟨g, k * 4 + 1, none⟩ = some (.string l[k].nm) ∧ w.cell? ⟨g, k * 4 + 2, none⟩ = some (.int .i64 l[k].ar) ∧ w.cell? ⟨g, k * 4 + 3, none⟩ = some (.int .i64 l[k].pl) ∧ g < w.heap.size := by
  obtain ⟨ad, he, hlt, a, b, c, d⟩ := h.get k hk hn
  injection he with he
  subst he
  rw [add_at] at a b c d
  simp only [Nat.zero_add] at a b c d
  exact ⟨a, b, c, d, hlt⟩
theorem Rd.sub {w : World} {ok : Nat → Prop} {sz g o n c a b : Nat} {xs : List Value} (h : Rd w ok sz (.slice (some ⟨g, o, none⟩) n c) n xs) (hab : a ≤ b) (hbn : b ≤ n) {n' c' o' : Nat} (hn' : n' = b - a) (hc' : c' = c - a) (ho' : o' = o + a * sz) :
    Rd w ok sz (.slice (some ⟨g, o', none⟩) n' c') n' ((xs.drop (a * sz)).take (n' * sz)) := by
  obtain ⟨hl, A, c1, he, hc, hr⟩ := h
  injection he with e1 _ e3
  subst e1; subst e3; subst hn'; subst hc'; subst ho'
  have e : (b - a) * sz = b * sz - a * sz := Nat.sub_mul _ _ _
  have hb : b * sz ≤ n * sz := Nat.mul_le_mul_right _ hbn
  have ha : a * sz ≤ b * sz := Nat.mul_le_mul_right _ hab
  refine ⟨by rw [List.length_take, List.length_drop, hl]; omega, _, _, rfl, by omega, fun hpos => ?_⟩
  obtain ⟨ad, he, hok, hcells⟩ := hr (by omega)
  injection he with he
  subst he
  refine ⟨_, rfl, hok, fun j u hu => ?_⟩
  rw [List.getElem?_take] at hu
  split at hu
  · rw [List.getElem?_drop] at hu
    have := hcells _ _ hu
    rw [add_at] at this ⊢
    rw [← Nat.add_assoc] at this
    exact this
  · cases hu
theorem cells_sub (l : List Ev) (a n : Nat) : ((cells l).drop (a * 4)).take (n * 4) = cells ((l.drop a).take n) := by rw [cells_drop, cells_take]
theorem acells_take (l : List Act) (k : Nat) : (acells l).take (k * 5) = acells (l.take k) := by
  induction l generalizing k with
  | nil => simp [acells]
  | cons e l ih =>
    cases k with
    | zero => simp [acells]
    | succ k =>
      rw [acells_cons, List.take_succ_cons, acells_cons, ← ih k, show (k + 1) * 5 = k * 5 + 5 by omega]
      simp [Act.cs]
theorem acells_sub (l : List Act) (a n : Nat) : ((acells l).drop (a * 5)).take (n * 5) = acells ((l.drop a).take n) := by rw [acells_drop, acells_take]
theorem Rd.esub {w : World} {ok : Nat → Prop} {g o n c : Nat} {l : List Ev} (a b : Nat) (h : Rd w ok 4 (.slice (some ⟨g, o, none⟩) n c) n (cells l)) (hab : a ≤ b) (hbn : b ≤ n) {n' c' o' : Nat} (hn' : n' = b - a) (hc' : c' = c - a) (ho' : o' = o + a * 4) :
    Rd w ok 4 (.slice (some ⟨g, o', none⟩) n' c') n' (cells ((l.drop a).take n')) := by
  rw [← cells_sub]
  exact h.sub hab hbn hn' hc' ho'
theorem Rd.asub {w : World} {ok : Nat → Prop} {g o n c : Nat} {l : List Act} (a b : Nat) (h : Rd w ok 5 (.slice (some ⟨g, o, none⟩) n c) n (acells l)) (hab : a ≤ b) (hbn : b ≤ n) {n' c' o' : Nat} (hn' : n' = b - a) (hc' : c' = c - a) (ho' : o' = o + a * 5) :
    Rd w ok 5 (.slice (some ⟨g, o', none⟩) n' c') n' (acells ((l.drop a).take n')) := by
  rw [← acells_sub]
  exact h.sub hab hbn hn' hc' ho'
theorem plays_n {ok : Nat → Prop} {A : Option Addr} {n c : Nat} (room : Int) (l : List Act) (w : World) (h : Rd w ok 5 (.slice A n c) n (acells l)) :
    Calls Try.prog 3 #[.int .i64 room, .slice A n c] w fun e w' => e = .returned (.bool true) ∧ Below w.heap.size w w' := by
  obtain rfl : l.length = n := by have := h.1; rw [acells_length] at this; omega
  exact plays_any room l w h
theorem once_n {ok : Nat → Prop} {A : Option Addr} {n c : Nat} (room : Int) (l : List Act) (w : World) (h : Rd w ok 5 (.slice A n c) n (acells l)) :
    Calls Try.prog 4 #[.int .i64 room, .slice A n c] w fun e w' => e = .returned (.bool true) ∧ Below w.heap.size w w' := by
  obtain rfl : l.length = n := by have := h.1; rw [acells_length] at this; omega
  exact once_any room l w h
theorem again_n {ok ok' : Nat → Prop} {A1 A2 : Option Addr} {n1 n2 c1 c2 : Nat} (room : Int) (l1 l2 : List Act) (w : World) (h1 : Rd w ok 5 (.slice A1 n1 c1) n1 (acells l1)) (h2 : Rd w ok' 5 (.slice A2 n2 c2) n2 (acells l2)) :
    Calls Try.prog 7 #[.int .i64 room, .slice A1 n1 c1, .slice A2 n2 c2] w fun e w' => e = .returned (.bool true) ∧ Below w.heap.size w w' := by
  obtain rfl : l1.length = n1 := by have := h1.1; rw [acells_length] at this; omega
  obtain rfl : l2.length = n2 := by have := h2.1; rw [acells_length] at this; omega
  exact again_any room l1 l2 w h1 h2
theorem prows_n {ok : Nat → Prop} {A1 A2 A3 : Option Addr} {n1 n2 n3 c1 c2 c3 : Nat} (room : Int) (l1 l2 l3 : List Ev) (w : World) (h1 : Rd w ok 4 (.slice A1 n1 c1) n1 (cells l1)) (h2 : Rd w ok 4 (.slice A2 n2 c2) n2 (cells l2)) (h3 : Rd w ok 4 (.slice A3 n3 c3) n3 (cells l3)) :
    Calls Try.prog 6 #[.int .i64 room, .slice A1 n1 c1, .slice A2 n2 c2, .slice A3 n3 c3] w fun e w' => e = .returned (.bool true) ∧ Below w.heap.size w w' := by
  obtain rfl : l1.length = n1 := by have := h1.1; rw [cells_length] at this; omega
  obtain rfl : l2.length = n2 := by have := h2.1; rw [cells_length] at this; omega
  obtain rfl : l3.length = n3 := by have := h3.1; rw [cells_length] at this; omega
  exact prows_any room l1 l2 l3 w h1 h2 h3
def kl : List Ev := [⟨1, ⟨#[]⟩, 0, 5⟩, ⟨2, ⟨#[97]⟩, -3, 0⟩, ⟨3, ⟨#[]⟩, 0, 2⟩, ⟨0, ⟨#[]⟩, 0, 0⟩, ⟨4, ⟨#[]⟩, 0, 1⟩, ⟨1, ⟨#[]⟩, 0, -1⟩, ⟨1, ⟨#[]⟩, 1, 0⟩, ⟨1, ⟨#[97]⟩, 0, 0⟩, ⟨2, ⟨#[]⟩, 0, 0⟩, ⟨2, ⟨#[98]⟩, 0, 1⟩, ⟨3, ⟨#[]⟩, 0, 5⟩, ⟨3, ⟨#[]⟩, 1, 0⟩, ⟨2, ⟨#[99]⟩, 0, 0⟩]
theorem rd_kl {w : World} {g t : Nat} (h : w.heap[g]? = some (.cells (cells kl).toArray t (0, 0))) : Rd w (fun _ => True) 4 (.slice (some ⟨g, 0, none⟩) 13 13) 13 (cells kl) := by
  have := rd_block (n := 13) (sz := 4) h rfl
  simpa using this
end Go.Proofs.Ytbobjecjopmnfaa
