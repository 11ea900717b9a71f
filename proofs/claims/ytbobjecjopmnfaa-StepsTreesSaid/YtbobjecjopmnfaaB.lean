/- The pool's model: events, rows of events, what each call answers; what it is for a pool to lie in memory. -/
import Derived.Test.YtbobjecjopmnfaaA
namespace Go.Proofs.Ytbobjecjopmnfaa
open Go.RowKit

structure Ev where
  k : Int
  nm : ByteArray
  ar : Int
  pl : Int

def Ev.cs (e : Ev) : List Value := [.int .u8 e.k, .string e.nm, .int .i64 e.ar, .int .i64 e.pl]
def Ev.val (e : Ev) : Value := .agg #[.int .u8 e.k, .string e.nm, .int .i64 e.ar, .int .i64 e.pl]
def Ev.z : Ev := ⟨0, ⟨#[]⟩, 0, 0⟩
def cells (l : List Ev) : List Value := l.flatMap Ev.cs

theorem cells_nil : cells [] = [] := rfl
theorem cells_cons (e : Ev) (l : List Ev) : cells (e :: l) = e.cs ++ cells l := by simp [cells]
theorem cells_append (l m : List Ev) : cells (l ++ m) = cells l ++ cells m := by simp [cells]
theorem cells_length (l : List Ev) : (cells l).length = l.length * 4 := by
  induction l with
  | nil => rfl
  | cons e l ih => rw [cells_cons, List.length_append, ih, List.length_cons]; simp [Ev.cs]; omega
theorem cells_one : ∀ (l : List Ev), ∀ u ∈ cells l, u.oneCell' = true := by
  intro l u hu
  obtain ⟨e, _, he⟩ := List.mem_flatMap.1 hu
  simp [Ev.cs] at he
  rcases he with rfl | rfl | rfl | rfl <;> rfl
theorem cells_drop (l : List Ev) (k : Nat) : (cells l).drop (k * 4) = cells (l.drop k) := by
  induction l generalizing k with
  | nil => simp [cells]
  | cons e l ih =>
    cases k with
    | zero => simp
    | succ k =>
      rw [cells_cons, List.drop_succ_cons, ← ih k, show (k + 1) * 4 = k * 4 + 4 by omega]
      simp [Ev.cs]
theorem cells_take (l : List Ev) (k : Nat) : (cells l).take (k * 4) = cells (l.take k) := by
  induction l generalizing k with
  | nil => simp [cells]
  | cons e l ih =>
    cases k with
    | zero => simp [cells]
    | succ k =>
      rw [cells_cons, List.take_succ_cons, cells_cons, ← ih k, show (k + 1) * 4 = k * 4 + 4 by omega]
      simp [Ev.cs]
theorem cells_get (l : List Ev) (j i : Nat) (hj : j < l.length) (hi : i < 4) : (cells l)[j * 4 + i]? = (l[j].cs)[i]? := by
  have h : (cells l)[j * 4 + i]? = ((cells l).drop (j * 4))[i]? := by rw [List.getElem?_drop]
  rw [h, cells_drop, List.drop_eq_getElem_cons hj, cells_cons, List.getElem?_append_left (by simpa [Ev.cs] using hi)]

/-- May an event be? -/
def may (e : Ev) : Bool :=
  if e.k = 1 ∨ e.k = 3 then decide (0 ≤ e.pl) && (e.nm.toList == [] && e.ar == 0)
  else if e.k = 2 then !(e.nm.toList == []) && e.pl == 0 else false

structure M where
  room : Int
  D : List Ev
  R : List Ev
  F : List Ev

namespace M
def len (m : M) : Nat := m.D.length + m.R.length + m.F.length
def fresh (room : Int) : M := ⟨max 1 (min room 256), [], [], []⟩
def put (m : M) (e : Ev) : M × Int :=
  if may e = false then (m, 2) else if m.room ≤ m.len then (m, 240) else if e.k = 1 then ({ m with D := m.D ++ [e] }, 0) else ({ m with R := m.R ++ [e] }, 0)
def defer (m : M) (e : Ev) : M × Int :=
  if may e = false ∨ e.k ≠ 2 then (m, 2) else if m.room ≤ m.len then (m, 240) else ({ m with F := m.F ++ [e] }, 0)
def recall (m : M) : M × Int := ({ m with R := m.F ++ m.R, F := [] }, m.F.length)
def next (m : M) : M × Ev × Bool :=
  match m.D with
  | e :: D => ({ m with D := D }, e, true)
  | [] => match m.R with
    | e :: R => ({ m with R := R }, e, true)
    | [] => (m, Ev.z, false)
def stays (k pl : Int) (e : Ev) : Bool := !(e.k == k && e.pl == pl)
def gone (m : M) (k pl : Int) : M × Int :=
  if k ≠ 1 ∧ k ≠ 3 then (m, 0)
  else
    let m' : M := { m with D := m.D.filter (stays k pl), R := m.R.filter (stays k pl) }
    (m', (m.len : Int) - m'.len)
/-- Deferred ones are Calls; the room is between 1 and 256, and holds all. -/
structure Ok (m : M) : Prop where
  lo : 1 ≤ m.room
  hi : m.room ≤ 256
  fits : (m.len : Int) ≤ m.room
  calls : ∀ e ∈ m.F, e.k = 2
end M

/-- A pool (its block of type t, its rows' elements of type e) lies at block p; its blocks are ok. -/
def At (w : World) (t e : TypeId) (ok : Nat → Prop) (p : Nat) (m : M) : Prop :=
  ∃ v0 v1 v2, w.heap[p]? = some (.cells #[.int .i64 m.room, v0, v1, v2] t (0, 0)) ∧
    Row w e 4 v0 m.D.length (cells m.D) ∧ Row w e 4 v1 m.R.length (cells m.R) ∧ Row w e 4 v2 m.F.length (cells m.F) ∧
    Apart v0 v1 ∧ Apart v0 v2 ∧ Apart v1 v2 ∧ (∀ b, (b = p ∨ Fp v0 b ∨ Fp v1 b ∨ Fp v2 b) → ok b) ∧ (∀ b, ok b → b < w.heap.size) ∧ m.Ok

theorem At.keep {w w' : World} {t e : TypeId} {ok : Nat → Prop} {p : Nat} {m : M} (h : At w t e ok p m) (hs : w.heap.size ≤ w'.heap.size) (hk : ∀ b, ok b → w'.heap[b]? = w.heap[b]?) : At w' t e ok p m := by
  obtain ⟨v0, v1, v2, h1, h2, h3, h4, h5, h6, h7, h8, h9, h10⟩ := h
  exact ⟨v0, v1, v2, (hk p (h8 p (.inl rfl))).trans h1, h2.keep (fun b hb => hk b (h8 b (.inr (.inl hb)))), h3.keep (fun b hb => hk b (h8 b (.inr (.inr (.inl hb))))),
    h4.keep (fun b hb => hk b (h8 b (.inr (.inr (.inr hb))))), h5, h6, h7, h8, fun b hb => Nat.lt_of_lt_of_le (h9 b hb) hs, h10⟩
theorem At.below {w w' : World} {t e : TypeId} {ok : Nat → Prop} {p : Nat} {m : M} (h : At w t e ok p m) (hb : Below w.heap.size w w') : At w' t e ok p m := by
  have h9 : ∀ b, ok b → b < w.heap.size := by
    obtain ⟨v0, v1, v2, h1, h2, h3, h4, h5, h6, h7, h8, h9, h10⟩ := h
    exact h9
  exact h.keep hb.size (fun b h' => hb.block b (h9 b h'))
theorem At.lt {w : World} {t e : TypeId} {ok : Nat → Prop} {p : Nat} {m : M} (h : At w t e ok p m) : ∀ b, ok b → b < w.heap.size := by
  obtain ⟨v0, v1, v2, h1, h2, h3, h4, h5, h6, h7, h8, h9, h10⟩ := h
  exact h9
theorem At.ok {w : World} {t e : TypeId} {ok : Nat → Prop} {p : Nat} {m : M} (h : At w t e ok p m) : m.Ok := by
  obtain ⟨v0, v1, v2, h1, h2, h3, h4, h5, h6, h7, h8, h9, h10⟩ := h
  exact h10
theorem At.only {w w' : World} {t e : TypeId} {ok ok' : Nat → Prop} {p : Nat} {m : M} (h : At w t e ok p m) (ho : Only ok' w w') (hd : ∀ b, ok b → ok' b → False) : At w' t e ok p m :=
  h.keep ho.size (fun b hb => ho.block b (h.lt b hb) (fun h' => hd b hb h'))

/-- What a call on a pool leaves: it lies there as m', nothing else has turned. -/
def Turned (t e : TypeId) (ok : Nat → Prop) (p : Nat) (m' : M) (w w' : World) : Prop :=
  ∃ ok', At w' t e ok' p m' ∧ Only ok w w' ∧ ∀ b, ok' b → ok b ∨ w.heap.size ≤ b
theorem Turned.of_below {t e : TypeId} {ok : Nat → Prop} {p : Nat} {m : M} {w w' : World} (h : At w t e ok p m) (hb : Below w.heap.size w w') : Turned t e ok p m w w' :=
  ⟨ok, h.below hb, Only.of_below hb ok, fun _ hb => .inl hb⟩
end Go.Proofs.Ytbobjecjopmnfaa
