/- The walks of few, same, row (the statements'). -/
import Derived.Test.YtbobjecjopmnfaaE6
namespace Go.Proofs.Ytbobjecjopmnfaa
open Go.RowKit
structure Act where
  kd : Int
  e : Ev
def Act.cs (a : Act) : List Value := [.int .i64 a.kd, .int .u8 a.e.k, .string a.e.nm, .int .i64 a.e.ar, .int .i64 a.e.pl]
def acells (l : List Act) : List Value := l.flatMap Act.cs
theorem acells_cons (e : Act) (l : List Act) : acells (e :: l) = e.cs ++ acells l := by simp [acells]
theorem acells_length (l : List Act) : (acells l).length = l.length * 5 := by
  induction l with
  | nil => rfl
  | cons e l ih => rw [acells_cons, List.length_append, ih, List.length_cons]; simp [Act.cs]; omega
theorem acells_drop (l : List Act) (k : Nat) : (acells l).drop (k * 5) = acells (l.drop k) := by
  induction l generalizing k with
  | nil => simp [acells]
  | cons e l ih =>
    cases k with
    | zero => simp
    | succ k =>
      rw [acells_cons, List.drop_succ_cons, ← ih k, show (k + 1) * 5 = k * 5 + 5 by omega]
      simp [Act.cs]
theorem acells_get (l : List Act) (j i : Nat) (hj : j < l.length) (hi : i < 5) : (acells l)[j * 5 + i]? = (l[j].cs)[i]? := by
  have h : (acells l)[j * 5 + i]? = ((acells l).drop (j * 5))[i]? := by rw [List.getElem?_drop]
  rw [h, acells_drop, List.drop_eq_getElem_cons hj, acells_cons, List.getElem?_append_left (by simpa [Act.cs] using hi)]
theorem Rd.geta {w : World} {ok : Nat → Prop} {l : List Act} {A : Option Addr} {c n : Nat} (h : Rd w ok 5 (.slice A n c) n (acells l)) (k : Nat) (hk : k < l.length) (hn : 0 < n) :
    ∃ ad, A = some ad ∧ ad.block < w.heap.size ∧ w.cell? (ad.add (k * 5)) = some (.int .i64 l[k].kd) ∧ w.cell? ⟨(ad.add (k * 5)).block, (ad.add (k * 5)).off + 1, none⟩ = some (.int .u8 l[k].e.k) ∧ w.cell? ⟨(ad.add (k * 5)).block, (ad.add (k * 5)).off + 2, none⟩ = some (.string l[k].e.nm) ∧ w.cell? ⟨(ad.add (k * 5)).block, (ad.add (k * 5)).off + 3, none⟩ = some (.int .i64 l[k].e.ar) ∧ w.cell? ⟨(ad.add (k * 5)).block, (ad.add (k * 5)).off + 4, none⟩ = some (.int .i64 l[k].e.pl) := by
  obtain ⟨_, A', c', he, _, hr⟩ := h
  injection he with e1 _ e3
  subst e1; subst e3
  obtain ⟨ad, rfl, _, hcells⟩ := hr hn
  have key : ∀ j u, j < 5 → (l[k].cs)[j]? = some u → w.cell? (ad.add (k * 5 + j)) = some u := fun j u hj hu => hcells (k * 5 + j) u (by rw [acells_get l k j hk hj]; exact hu)
  have k0 := key 0 _ (by omega) rfl
  have hlt := World.block_lt_of_cell? w _ k0
  rw [add_block] at hlt
  have hf : ∀ j, 0 < j → ad.add (k * 5 + j) = ⟨(ad.add (k * 5)).block, (ad.add (k * 5)).off + j, none⟩ := fun j hj => by
    unfold Addr.add
    by_cases hm : k * 5 = 0
    · simp [hm, Nat.ne_of_gt hj]
    · simp [hm, Nat.add_assoc]
  exact ⟨ad, rfl, hlt, k0, by rw [← hf 1 (by omega)]; exact key 1 _ (by omega) rfl, by rw [← hf 2 (by omega)]; exact key 2 _ (by omega) rfl, by rw [← hf 3 (by omega)]; exact key 3 _ (by omega) rfl, by rw [← hf 4 (by omega)]; exact key 4 _ (by omega) rfl⟩
/-- At most so many calls, with names of at most 70 bytes. -/
def Few (l : List Act) (top : Nat) : Prop := l.length ≤ top ∧ ∀ a ∈ l, a.e.nm.size ≤ 70
/-- A Bool comes back that, being true, says P. -/
def BoolIf (P : Prop) (w : World) (e : Ending) (w' : World) : Prop := ∃ b : Bool, e = .returned (.bool b) ∧ (b = true → P) ∧ w' = w
theorem few_any {ok : Nat → Prop} {A : Option Addr} {c : Nat} (l : List Act) (top : Nat) (ht : top ≤ 100) (w : World) (h : Rd w ok 5 (.slice A l.length c) l.length (acells l)) :
    Calls Try.prog 12 #[.slice A l.length c, .int .i64 top] w (BoolIf (Few l top) w) := by
  have H := hide h
  clear h
  by_cases hl : l.length ≤ top
  · go_enter Try.func12, Try.ntmps12
    go_wp2
    go_loop [5] (fun i => ∃ j : Nat, j ≤ l.length ∧ i = .int .i64 j ∧ Hid (∀ q (hq : q < l.length), q < j → l[q].e.nm.size ≤ 70)) (fun i => l.length - (intOf i).toNat)
    case atStart => exact ⟨0, Nat.zero_le _, rfl, fun q hq h => absurd h (by omega)⟩
    case round =>
      obtain ⟨j, hj, rfl, HN⟩ := hrel
      by_cases hlt2 : j < l.length
      · obtain ⟨ad, hA, hltd, x0, x1, x2, x3, x4⟩ := H.out.geta j hlt2 (by omega)
        obtain ⟨s, hs⟩ : ∃ s, s = l[j].e.nm := ⟨_, rfl⟩
        rw [← hs] at x2
        subst hA
        have HS := hide hs
        clear hs x0 x1 x3 x4
        go_wp2
        · go_ret
          exact ⟨false, rfl, (fun h => by cases h), rfl⟩
        · have h70 : s.size ≤ 70 := by omega
          go_round
          case rel =>
            refine ⟨j + 1, by omega, by go_num, fun q hq hqj => ?_⟩
            rcases Nat.lt_or_eq_of_le (Nat.le_of_lt_succ hqj) with h1 | h1
            · exact HN.out q hq h1
            · subst h1
              rw [← HS.out]
              exact h70
          case measure => simp [intOf]; omega
      · go_wp2
        go_ret
        refine ⟨true, rfl, fun _ => ⟨hl, fun a ha => ?_⟩, rfl⟩
        obtain ⟨q, hq, rfl⟩ := List.mem_iff_getElem.1 ha
        exact HN.out q hq (by omega)
  · go_enter Try.func12, Try.ntmps12
    go_wp2
    go_ret
    exact ⟨false, rfl, (fun h => by cases h), rfl⟩
end Go.Proofs.Ytbobjecjopmnfaa
