/- The walks of Gone's closure, IndexFunc, DeleteFunc. -/
import Derived.Test.YtbobjecjopmnfaaC7
namespace Go.Proofs.Ytbobjecjopmnfaa
open Go.RowKit
def hit (k pl : Int) (e : Ev) : Bool := e.k == k && e.pl == pl
theorem closure_any (bk bp : Nat) (k pl : Int) (x : Ev) (w : World) (h1 : w.cell? ⟨bk, 0, none⟩ = some (.int .u8 k)) (h2 : w.cell? ⟨bp, 0, none⟩ = some (.int .i64 pl)) :
    Calls Try.prog 63 #[.agg #[.int .u8 x.k, .string x.nm, .int .i64 x.ar, .int .i64 x.pl], .pointer (some ⟨bk, 0, none⟩), .pointer (some ⟨bp, 0, none⟩)] w fun e w' => e = .returned (.bool (hit k pl x)) ∧ Below w.heap.size w w' := by
  have hl1 := World.block_lt_of_cell? w _ h1
  have hl2 := World.block_lt_of_cell? w _ h2
  simp only at hl1 hl2
  go_enter Try.func63, Try.ntmps63
  go_wp2
  all_goals
    go_ret
    refine ⟨?_, (Below.refl _ _).alloc (Nat.le_refl _) _⟩
    simp_all [hit]

/-- The index of the first event that is hit; -1: there is none. -/
def ix (k pl : Int) : List Ev → Int
  | [] => -1
  | x :: l => if hit k pl x = true then 0 else if ix k pl l = -1 then -1 else ix k pl l + 1
theorem ix_ge (k pl : Int) : ∀ l, -1 ≤ ix k pl l
  | [] => by simp [ix]
  | x :: l => by have := ix_ge k pl l; simp only [ix]; split <;> (try split) <;> omega
theorem ix_hit {k pl : Int} {l : List Ev} {j : Nat} {x : Ev} (h : ix k pl l = if ix k pl (l.drop j) = -1 then -1 else ix k pl (l.drop j) + j) {hj : j < l.length} (hx : x = l[j]) (hh : hit k pl x = true) : ix k pl l = j := by
  rw [h, List.drop_eq_getElem_cons hj, ← hx]
  simp [ix, hh]
theorem ix_miss {k pl : Int} {l : List Ev} {j : Nat} {x : Ev} (h : ix k pl l = if ix k pl (l.drop j) = -1 then -1 else ix k pl (l.drop j) + j) {hj : j < l.length} (hx : x = l[j]) (hh : hit k pl x = false) :
    ix k pl l = if ix k pl (l.drop (j + 1)) = -1 then -1 else ix k pl (l.drop (j + 1)) + (j + 1 : Nat) := by
  rw [h, List.drop_eq_getElem_cons hj, ← hx]
  have := ix_ge k pl (l.drop (j + 1))
  simp only [ix, hh]
  by_cases h1 : ix k pl (l.drop (j + 1)) = -1
  · simp [h1]
  · rw [if_neg (by simp [h1]; omega)]
    simp [h1]
    omega
theorem ix_end {k pl : Int} {l : List Ev} {j : Nat} (h : ix k pl l = if ix k pl (l.drop j) = -1 then -1 else ix k pl (l.drop j) + j) (hj : l.length ≤ j) : ix k pl l = -1 := by
  rw [h, List.drop_of_length_le hj]
  simp [ix]
theorem Row.get {w : World} {e : TypeId} {l : List Ev} {g o c n : Nat} (h : Row w e 4 (.slice (some ⟨g, o, none⟩) n c) n (cells l)) (k : Nat) (hk : k < l.length) (hn : 0 < n) :
    w.cell? ⟨g, o + k * 4, none⟩ = some (.int .u8 l[k].k) ∧ w.cell? ⟨g, o + k * 4 + 1, none⟩ = some (.string l[k].nm) ∧ w.cell? ⟨g, o + k * 4 + 2, none⟩ = some (.int .i64 l[k].ar) ∧ w.cell? ⟨g, o + k * 4 + 3, none⟩ = some (.int .i64 l[k].pl) := by
  obtain ⟨_, A', c', he, _, hr⟩ := h.rd (ok := fun _ => True) (fun _ _ => trivial)
  injection he with e1 _ e3
  subst e1; subst e3
  obtain ⟨ad, had, _, hcells⟩ := hr hn
  injection had with had
  subst had
  have key : ∀ j u, j < 4 → (l[k].cs)[j]? = some u → w.cell? ⟨g, o + k * 4 + j, none⟩ = some u := fun j u hj hu => by
    have h1 := hcells (k * 4 + j) u (by rw [cells_get l k j hk hj]; exact hu)
    rw [add_at] at h1
    rwa [Nat.add_assoc]
  exact ⟨key 0 _ (by omega) rfl, key 1 _ (by omega) rfl, key 2 _ (by omega) rfl, key 3 _ (by omega) rfl⟩
theorem Row.place {w : World} {e : TypeId} {sz n c : Nat} {A : Option Addr} {xs : List Value} (h : Row w e sz (.slice A n c) n xs) (hc : 0 < c) : ∃ g o cur, A = some ⟨g, o, none⟩ ∧ w.heap[g]? = some (.cells cur e (0, 0)) ∧ o + n * sz ≤ cur.size := by
  obtain ⟨hl, A', c', he, hnc, hr⟩ := h
  injection he with e1 _ e3
  subst e1; subst e3
  obtain ⟨g, off, cur, hA, hg, _, hcs, _⟩ := hr hc
  refine ⟨g, off * sz, cur, hA, hg, ?_⟩
  rw [hcs, Nat.add_mul]
  have := Nat.mul_le_mul_right sz hnc
  omega
set_option maxHeartbeats 1000000 in
theorem index_any (bk bp : Nat) (k pl : Int) {A : Option Addr} {c : Nat} (l : List Ev) (w : World) (h : Row w 31 4 (.slice A l.length c) l.length (cells l)) (hn : l.length ≤ 1000)
    (h1 : w.cell? ⟨bk, 0, none⟩ = some (.int .u8 k)) (h2 : w.cell? ⟨bp, 0, none⟩ = some (.int .i64 pl)) :
    Calls Try.prog 79 #[.slice A l.length c, .func (.func 63) #[] #[.pointer (some ⟨bk, 0, none⟩), .pointer (some ⟨bp, 0, none⟩)]] w fun e w' => e = .returned (.int .i64 (ix k pl l)) ∧ Below w.heap.size w w' := by
  rcases Nat.eq_zero_or_pos l.length with h0 | h0
  · have hl : l = [] := List.eq_nil_of_length_eq_zero h0
    subst hl
    go_enter Try.func79, Try.ntmps79
    go_wp2
    refine wp_loop_rounds 1 ?_
    rw [rounds_succ]
    go_wp2
    go_ret
    exact ⟨rfl, Below.refl _ _⟩
  · obtain ⟨_, hcn⟩ : ∃ x, 0 < c := ⟨0, by obtain ⟨_, _, _, he, hc, _⟩ := h; injection he with _ _ e3; omega⟩
    obtain ⟨g, o, cur, rfl, hg, _⟩ := h.place hcn
    have hlt := blk_lt hg
    clear hg
    have H := hide h
    have HK1 := hide h1
    have HK2 := hide h2
    have hl1 := World.block_lt_of_cell? w _ h1
    have hl2 := World.block_lt_of_cell? w _ h2
    simp only at hl1 hl2
    clear h h1 h2
    go_enter Try.func79, Try.ntmps79
    go_wp2
    go_loopw [8] (fun i wr => ∃ j : Nat, j ≤ l.length ∧ i = .int .i64 j ∧ Hid (ix k pl l = if ix k pl (l.drop j) = -1 then -1 else ix k pl (l.drop j) + j) ∧ Hid (Below w.heap.size w wr)) (fun i _ => l.length - (intOf i).toNat)
    case atStart => exact ⟨0, Nat.zero_le _, rfl, (by show _ = _; simp), Below.refl _ _⟩
    case round =>
      obtain ⟨j, hj, rfl, HI, HB⟩ := hrel
      by_cases hlt2 : j < l.length
      · obtain ⟨x0, x1, x2, x3⟩ := (H.out.below HB.out).get j hlt2 h0
        have hsz := HB.out.size
        have k1 := (HB.out.cell (p := ⟨bk, 0, none⟩) hl1).trans HK1.out
        have k2 := (HB.out.cell (p := ⟨bp, 0, none⟩) hl2).trans HK2.out
        obtain ⟨x, hx⟩ : ∃ x, x = l[j] := ⟨_, rfl⟩
        rw [← hx] at x0 x1 x2 x3
        have HX := hide hx
        clear hx
        go_wp2_with (go_at_call 63; refine (closure_any bk bp k pl x _ k1 k2).mono ?_; rintro e w2 ⟨rfl, hb2⟩)
        · have hh : hit k pl x = true := by assumption
          go_ret
          exact ⟨by rw [ix_hit HI.out HX.out hh]; rfl, below_then HB.out hb2⟩
        · have hh : hit k pl x = false := by assumption
          go_roundw
          case rel => exact ⟨j + 1, by omega, by go_num, ix_miss HI.out HX.out hh, below_then HB.out hb2⟩
          case measure => simp [intOf]; omega
      · go_wp2
        go_ret
        exact ⟨by rw [ix_end HI.out (by omega)]; rfl, HB.out⟩
end Go.Proofs.Ytbobjecjopmnfaa
