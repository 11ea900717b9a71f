/- The walk of Of (the pool's). -/
import Derived.Test.YtbobjecjopmnfaaD1
namespace Go.Proofs.Ytbobjecjopmnfaa
open Go.RowKit
/-- May an event stand in row r? -/
def good (r : Nat) (e : Ev) : Bool := may e && (((r == 0) == (e.k == 1)) && (r != 2 || e.k == 2))
def ofM (room : Int) (a b c : List Ev) : Option M × Int :=
  if a.all (good 0) = true ∧ b.all (good 1) = true ∧ c.all (good 2) = true then
    if max 1 (min room 256) < (a.length + b.length + c.length : Nat) then (none, 240) else (some ⟨max 1 (min room 256), a, b, c⟩, 0)
  else (none, 2)
/-- What Of hands back: no pool, or one in new memory. -/
def Got (t e : TypeId) (w w' : World) (v : Value) : Option M → Prop
  | none => v = .pointer none
  | some m => ∃ g ok, v = .pointer (some ⟨g, 0, none⟩) ∧ At w' t e ok g m ∧ ∀ b, ok b → w.heap.size ≤ b
theorem ofM_bad {room : Int} {a b c : List Ev} (h : ¬ (a.all (good 0) = true ∧ b.all (good 1) = true ∧ c.all (good 2) = true)) : ofM room a b c = (none, 2) := if_neg h
theorem all_upto {p : Ev → Bool} {l : List Ev} (h : ∀ j (hj : j < l.length), p l[j] = true) : l.all p = true := by
  rw [List.all_eq_true]
  intro x hx
  obtain ⟨j, hj, rfl⟩ := List.mem_iff_getElem.1 hx
  exact h j hj
theorem not_all {p : Ev → Bool} {l : List Ev} {j : Nat} {hj : j < l.length} (h : p l[j] = false) : ¬ l.all p = true := by
  rw [List.all_eq_true]
  intro h'
  rw [h' _ (List.getElem_mem hj)] at h
  cases h
/-- Behind New and the three copies: the pool's block, written. -/
structure Laid (w w5 : World) (g : Nat) (room : Int) (a b c : List Ev) (A B C : Option Addr) (ca cb cc : Nat) : Prop where
  hb : w5.heap[g]? = some (.cells #[.int .i64 room, .slice A a.length ca, .slice B b.length cb, .slice C c.length cc] 90 (0, 0))
  h0 : Row w5 31 4 (.slice A a.length ca) a.length (cells a)
  h1 : Row w5 31 4 (.slice B b.length cb) b.length (cells b)
  h2 : Row w5 31 4 (.slice C c.length cc) c.length (cells c)
  a01 : Apart (.slice A a.length ca) (.slice B b.length cb)
  a02 : Apart (.slice A a.length ca) (.slice C c.length cc)
  a12 : Apart (.slice B b.length cb) (.slice C c.length cc)
  hnew : ∀ q, (q = g ∨ Fp (.slice A a.length ca) q ∨ Fp (.slice B b.length cb) q ∨ Fp (.slice C c.length cc) q) → w.heap.size ≤ q
  hB : Below w.heap.size w w5
theorem Laid.below {w w5 w6 : World} {g : Nat} {room : Int} {a b c : List Ev} {A B C : Option Addr} {ca cb cc : Nat} (L : Laid w w5 g room a b c A B C ca cb cc) (h : Below w5.heap.size w5 w6) : Laid w w6 g room a b c A B C ca cb cc :=
  ⟨(h.block g (blk_lt L.hb)).trans L.hb, L.h0.below h, L.h1.below h, L.h2.below h, L.a01, L.a02, L.a12, L.hnew, below_then L.hB h⟩
theorem Laid.got {w w5 : World} {g : Nat} {room : Int} {a b c : List Ev} {A B C : Option Addr} {ca cb cc : Nat} (L : Laid w w5 g room a b c A B C ca cb cc) (hOk : M.Ok ⟨room, a, b, c⟩) : Got 90 31 w w5 (.pointer (some ⟨g, 0, none⟩)) (some ⟨room, a, b, c⟩) := by
  refine ⟨g, fun q => q = g ∨ Fp (.slice A a.length ca) q ∨ Fp (.slice B b.length cb) q ∨ Fp (.slice C c.length cc) q, rfl, ⟨_, _, _, L.hb, L.h0, L.h1, L.h2, L.a01, L.a02, L.a12, fun _ h => h, ?_, hOk⟩, L.hnew⟩
  rintro q (rfl | h | h | h)
  · exact blk_lt L.hb
  · exact L.h0.lt q h
  · exact L.h1.lt q h
  · exact L.h2.lt q h

theorem of_laid {w w2 w3 w4 : World} {room : Int} {a b c : List Ev} {A B C : Option Addr} {ca cb cc : Nat} (hb1 : Below (w.alloc (pool0 room 90)).heap.size (w.alloc (pool0 room 90)) w2) (hb2 : Below w2.heap.size w2 w3) (hb3 : Below w3.heap.size w3 w4)
    (r0 : Row w2 31 4 (.slice A a.length ca) a.length (cells a)) (r1 : Row w3 31 4 (.slice B b.length cb) b.length (cells b)) (r2 : Row w4 31 4 (.slice C c.length cc) c.length (cells c))
    (f0 : ∀ q, Fp (.slice A a.length ca) q → (w.alloc (pool0 room 90)).heap.size ≤ q) (f1 : ∀ q, Fp (.slice B b.length cb) q → w2.heap.size ≤ q) (f2 : ∀ q, Fp (.slice C c.length cc) q → w3.heap.size ≤ q) :
    (w4.cell? ⟨w.heap.size, 1, none⟩ = some (.slice none 0 0) ∧ w4.cell? ⟨w.heap.size, 2, none⟩ = some (.slice none 0 0) ∧ w4.cell? ⟨w.heap.size, 3, none⟩ = some (.slice none 0 0) ∧ (∀ q, w4.frozen? ⟨w.heap.size, q, none⟩ = false) ∧ w.heap.size < w4.heap.size) ∧
    Hid (Laid w (((w4.setCell ⟨w.heap.size, 1, none⟩ (.slice A a.length ca)).setCell ⟨w.heap.size, 2, none⟩ (.slice B b.length cb)).setCell ⟨w.heap.size, 3, none⟩ (.slice C c.length cc)) w.heap.size (max 1 (min room 256)) a b c A B C ca cb cc) := by
  have hg1 : (w.alloc (pool0 room 90)).heap[w.heap.size]? = some (pool0 room 90) := heap_alloc_new w _
  have k1 : (w.alloc (pool0 room 90)).heap.size = w.heap.size + 1 := by simp
  have k2 := hb1.size
  have k3 := hb2.size
  have k4 := hb3.size
  have hg4 : w4.heap[w.heap.size]? = some (pool0 room 90) := ((hb3.block _ (by omega)).trans ((hb2.block _ (by omega)).trans ((hb1.block _ (by omega)).trans hg1)))
  unfold pool0 at hg4
  have r0' := (r0.below hb2).below hb3
  have r1' := r1.below hb3
  have hs : ∀ {v : Value} {n : Nat} {xs : List Value}, Row w4 31 4 v n xs → Row (((w4.setCell ⟨w.heap.size, 1, none⟩ (.slice A a.length ca)).setCell ⟨w.heap.size, 2, none⟩ (.slice B b.length cb)).setCell ⟨w.heap.size, 3, none⟩ (.slice C c.length cc)) 31 4 v n xs := by
    intro v n xs h
    have hn := h.ne_ hg4 (by decide)
    exact ((h.setCell hn _).setCell hn _).setCell hn _
  refine ⟨⟨blk_cell hg4 1, blk_cell hg4 2, blk_cell hg4 3, fun q => blk_frozen hg4 q, blk_lt hg4⟩, blk_set (blk_set (blk_set hg4 1 _) 2 _) 3 _, hs r0', hs r1', hs r2, ?_, ?_, ?_, ?_, ?_⟩
  · exact fun q h h' => absurd (f1 q h') (by have := r0.lt q h; omega)
  · exact fun q h h' => absurd (f2 q h') (by have := (r0.below hb2).lt q h; omega)
  · exact fun q h h' => absurd (f2 q h') (by have := r1.lt q h; omega)
  · rintro q (rfl | h | h | h)
    · exact Nat.le_refl _
    · have := f0 q h; omega
    · have := f1 q h; omega
    · have := f2 q h; omega
  · have hb4 : Below w.heap.size w w4 := below_then (below_then (below_then ((Below.refl _ _).alloc (Nat.le_refl _) _) hb1) hb2) hb3
    exact ((hb4.setCell (Nat.le_refl _) _).setCell (Nat.le_refl _) _).setCell (Nat.le_refl _) _
theorem Laid.elem0 {w w5 : World} {g : Nat} {room : Int} {a b c : List Ev} {A B C : Option Addr} {ca cb cc : Nat} (L : Laid w w5 g room a b c A B C ca cb cc) {j : Nat} (hj : j < a.length) {x : Ev} (hx : x = a[j]) :
    ∃ gr o, A = some ⟨gr, o, none⟩ ∧ gr < w5.heap.size ∧ w5.cell? ⟨gr, o + j * 4, none⟩ = some (.int .u8 x.k) ∧ w5.cell? ⟨gr, o + j * 4 + 1, none⟩ = some (.string x.nm) ∧ w5.cell? ⟨gr, o + j * 4 + 2, none⟩ = some (.int .i64 x.ar) ∧ w5.cell? ⟨gr, o + j * 4 + 3, none⟩ = some (.int .i64 x.pl) := by
  have h := L.h0
  have hc : 0 < ca := by obtain ⟨_, _, _, he, hc, -⟩ := h; injection he with _ _ e3; omega
  obtain ⟨gr, o, cur, rfl, hg, _⟩ := h.place hc
  subst hx
  exact ⟨gr, o, rfl, blk_lt hg, h.get j hj (by omega)⟩
theorem Laid.elem1 {w w5 : World} {g : Nat} {room : Int} {a b c : List Ev} {A B C : Option Addr} {ca cb cc : Nat} (L : Laid w w5 g room a b c A B C ca cb cc) {j : Nat} (hj : j < b.length) {x : Ev} (hx : x = b[j]) :
    ∃ gr o, B = some ⟨gr, o, none⟩ ∧ gr < w5.heap.size ∧ w5.cell? ⟨gr, o + j * 4, none⟩ = some (.int .u8 x.k) ∧ w5.cell? ⟨gr, o + j * 4 + 1, none⟩ = some (.string x.nm) ∧ w5.cell? ⟨gr, o + j * 4 + 2, none⟩ = some (.int .i64 x.ar) ∧ w5.cell? ⟨gr, o + j * 4 + 3, none⟩ = some (.int .i64 x.pl) := by
  have h := L.h1
  have hc : 0 < cb := by obtain ⟨_, _, _, he, hc, -⟩ := h; injection he with _ _ e3; omega
  obtain ⟨gr, o, cur, rfl, hg, _⟩ := h.place hc
  subst hx
  exact ⟨gr, o, rfl, blk_lt hg, h.get j hj (by omega)⟩
theorem Laid.elem2 {w w5 : World} {g : Nat} {room : Int} {a b c : List Ev} {A B C : Option Addr} {ca cb cc : Nat} (L : Laid w w5 g room a b c A B C ca cb cc) {j : Nat} (hj : j < c.length) {x : Ev} (hx : x = c[j]) :
    ∃ gr o, C = some ⟨gr, o, none⟩ ∧ gr < w5.heap.size ∧ w5.cell? ⟨gr, o + j * 4, none⟩ = some (.int .u8 x.k) ∧ w5.cell? ⟨gr, o + j * 4 + 1, none⟩ = some (.string x.nm) ∧ w5.cell? ⟨gr, o + j * 4 + 2, none⟩ = some (.int .i64 x.ar) ∧ w5.cell? ⟨gr, o + j * 4 + 3, none⟩ = some (.int .i64 x.pl) := by
  have h := L.h2
  have hc : 0 < cc := by obtain ⟨_, _, _, he, hc, -⟩ := h; injection he with _ _ e3; omega
  obtain ⟨gr, o, cur, rfl, hg, _⟩ := h.place hc
  subst hx
  exact ⟨gr, o, rfl, blk_lt hg, h.get j hj (by omega)⟩
theorem Laid.behind {w w5 w6 : World} {g : Nat} {room : Int} {a b c : List Ev} {A B C : Option Addr} {ca cb cc : Nat} (L : Laid w w5 g room a b c A B C ca cb cc) {k : Int} {nm : ByteArray} {ar pl : Int}
    (h : Below (w5.alloc (.cells #[.int .u8 k, .string nm, .int .i64 ar, .int .i64 pl] 31)).heap.size (w5.alloc (.cells #[.int .u8 k, .string nm, .int .i64 ar, .int .i64 pl] 31)) w6) :
    w6.cell? ⟨w5.heap.size, 0, none⟩ = some (.int .u8 k) ∧ Hid (Laid w w6 g room a b c A B C ca cb cc) :=
  ⟨blk_cell (box_below h) 0, L.below (below_then ((Below.refl _ _).alloc (Nat.le_refl _) _) h)⟩
theorem good_step {r : Nat} {l : List Ev} {j : Nat} {x : Ev} (h : ∀ q (hq : q < l.length), q < j → good r l[q] = true) {hj : j < l.length} (hx : x = l[j]) (hg : good r x = true) : ∀ q (hq : q < l.length), q < j + 1 → good r l[q] = true := by
  intro q hq hlt
  rcases Nat.lt_or_eq_of_le (Nat.le_of_lt_succ hlt) with h1 | h1
  · exact h q hq h1
  · subst h1
    rw [← hx]
    exact hg
theorem of_calls {c : List Ev} (h : c.all (good 2) = true) : ∀ e ∈ c, e.k = 2 := by
  intro e he
  have := (List.all_eq_true.1 h) e he
  simp [good] at this
  exact this.2.2
set_option maxHeartbeats 4000000 in
theorem of_any {ok : Nat → Prop} (room : Int) (a b c : List Ev) {A B C : Option Addr} {ca cb cc : Nat} (w : World) (ha : Rd w ok 4 (.slice A a.length ca) a.length (cells a)) (hb : Rd w ok 4 (.slice B b.length cb) b.length (cells b)) (hc : Rd w ok 4 (.slice C c.length cc) c.length (cells c))
    (la : a.length ≤ 300) (lb : b.length ≤ 300) (lc : c.length ≤ 300) :
    Calls Try.prog 28 #[.int .i64 room, .slice A a.length ca, .slice B b.length cb, .slice C c.length cc] w fun e w' => ∃ v, e = .returned (.tuple #[v, .int .i64 (ofM room a b c).2]) ∧ Below w.heap.size w w' ∧ Got 90 31 w w' v (ofM room a b c).1 := by
  have HA := hide ha
  have HB := hide hb
  have HC := hide hc
  have hb1 : Below w.heap.size w (w.alloc (pool0 room 90)) := (Below.refl _ _).alloc (Nat.le_refl _) _
  have HB1 := hide hb1
  have HG := hide (heap_alloc_new w (pool0 room 90))
  clear ha hb hc hb1
  go_enter Try.func28, Try.ntmps28
  go_wp2_with (first | ((go_at_call 14); refine (pnew_any _ _).mono ?_; rintro e w1 ⟨rfl, rfl⟩) | ((go_at_call 61); (with_reducible refine (clone_any a _ (by exact HA.out.below HB1.out) (by omega)).mono ?_); rintro e w2 ⟨A1, a1, rfl, r0, f0, hb1⟩; have R0 := hide r0; have F0 := hide f0; have HB2 := hide hb1; have HW2 := hide (below_then HB1.out hb1); clear r0 f0 hb1) | ((go_at_call 61); (with_reducible refine (clone_any b _ (by exact HB.out.below HW2.out) (by omega)).mono ?_); rintro e w3 ⟨A2, a2, rfl, r1, f1, hb2⟩; have R1 := hide r1; have F1 := hide f1; have HB3 := hide hb2; have HW3 := hide (below_then HW2.out hb2); clear r1 f1 hb2) | ((go_at_call 61); (with_reducible refine (clone_any c _ (by exact HC.out.below HW3.out) (by omega)).mono ?_); rintro e w4 ⟨A3, a3, rfl, r2, f2, hb3⟩; obtain ⟨⟨d1, d2, d3, fz, hl4⟩, HL⟩ := of_laid HB2.out HB3.out hb3 R0.out R1.out r2 F0.out F1.out f2; clear r2 f2 hb3))
  revert HL
  generalize World.setCell _ _ _ = w5
  intro HL
  clear d1 d2 d3 fz hl4 R0 F0 HB2 HW2 R1 F1 HB3 HW3 HA HB HC HB1 HG
  have i0 : ∀ w, (Instr.index 88 (.agg #[.slice A1 a.length a1, .slice A2 b.length a2, .slice A3 c.length a3]) (.int .i64 0)).run Try.prog w = .ok (.slice A1 a.length a1) w := fun _ => by kernel_rfl
  have i1 : ∀ w, (Instr.index 88 (.agg #[.slice A1 a.length a1, .slice A2 b.length a2, .slice A3 c.length a3]) (.int .i64 1)).run Try.prog w = .ok (.slice A2 b.length a2) w := fun _ => by kernel_rfl
  have i2 : ∀ w, (Instr.index 88 (.agg #[.slice A1 a.length a1, .slice A2 b.length a2, .slice A3 c.length a3]) (.int .i64 2)).run Try.prog w = .ok (.slice A3 c.length a3) w := fun _ => by kernel_rfl
  refine wp_loop_rounds 4 ?_
  rw [rounds_succ]
  go_wp2
  go_loopw [37] (fun vi wr => ∃ j : Nat, j ≤ a.length ∧ vi = .int .i64 j ∧ Hid (∀ q (hq : q < a.length), q < j → good 0 a[q] = true) ∧ Hid (Laid w wr w.heap.size (max 1 (min room 256)) a b c A1 A2 A3 a1 a2 a3)) (fun vi _ => a.length - (intOf vi).toNat)
  case atStart => exact ⟨0, Nat.zero_le _, rfl, fun q hq h => absurd h (by omega), HL.out⟩
  case round =>
    clear HL
    obtain ⟨j0, hj0, rfl, HG0, HL0⟩ := hrel
    by_cases hlt2 : j0 < a.length
    · obtain ⟨x, hx⟩ : ∃ x, x = a[j0] := ⟨_, rfl⟩
      obtain ⟨gr, o, hA, hgl, x0, x1, x2, x3⟩ := HL0.out.elem0 hlt2 hx
      subst hA
      have HX := hide hx
      clear hx
      obtain ⟨k, nm, ar, pl⟩ := x
      simp only at x0 x1 x2 x3
      go_wp2_with (go_at_call 55; refine (pmay_any k nm ar pl _).mono ?_; rintro e w6 ⟨rfl, hb6⟩; obtain ⟨k0, HL6⟩ := HL0.out.behind hb6; clear hb6)
      all_goals first | (go_ret2; (have hb9 : good 0 a[j0] = false := (by rw [← HX.out]; simp_all [good])); exact ⟨.pointer none, by rw [ofM_bad (fun h => not_all (hj := hlt2) hb9 h.1)]; rfl, HL6.out.hB, by rw [ofM_bad (fun h => not_all (hj := hlt2) hb9 h.1)]; rfl⟩) | (go_roundw; (case rel => exact ⟨j0 + 1, by omega, by go_num, good_step HG0.out HX.out (by simp_all [good]), HL6.out⟩); (case measure => simp [intOf]; omega))
    · have G0 : Hid (a.all (good 0) = true) := all_upto fun q hq => HG0.out q hq (by omega)
      clear HG0
      go_wp2
      rw [rounds_succ]
      go_wp2
      go_loopw [37] (fun vi wr => ∃ j : Nat, j ≤ b.length ∧ vi = .int .i64 j ∧ Hid (∀ q (hq : q < b.length), q < j → good 1 b[q] = true) ∧ Hid (Laid w wr w.heap.size (max 1 (min room 256)) a b c A1 A2 A3 a1 a2 a3)) (fun vi _ => b.length - (intOf vi).toNat)
      case atStart => exact ⟨0, Nat.zero_le _, rfl, fun q hq h => absurd h (by omega), HL0.out⟩
      case round =>
        clear HL0
        obtain ⟨j1, hj1, rfl, HG1, HL1⟩ := hrel
        by_cases hlt2 : j1 < b.length
        · obtain ⟨x, hx⟩ : ∃ x, x = b[j1] := ⟨_, rfl⟩
          obtain ⟨gr, o, hA, hgl, x0, x1, x2, x3⟩ := HL1.out.elem1 hlt2 hx
          subst hA
          have HX := hide hx
          clear hx
          obtain ⟨k, nm, ar, pl⟩ := x
          simp only at x0 x1 x2 x3
          go_wp2_with (go_at_call 55; refine (pmay_any k nm ar pl _).mono ?_; rintro e w6 ⟨rfl, hb6⟩; obtain ⟨k0, HL6⟩ := HL1.out.behind hb6; clear hb6)
          all_goals first | (go_ret2; (have hb9 : good 1 b[j1] = false := (by rw [← HX.out]; simp_all [good])); exact ⟨.pointer none, by rw [ofM_bad (fun h => not_all (hj := hlt2) hb9 h.2.1)]; rfl, HL6.out.hB, by rw [ofM_bad (fun h => not_all (hj := hlt2) hb9 h.2.1)]; rfl⟩) | (go_roundw; (case rel => exact ⟨j1 + 1, by omega, by go_num, good_step HG1.out HX.out (by simp_all [good]), HL6.out⟩); (case measure => simp [intOf]; omega))
        · have G1 : Hid (b.all (good 1) = true) := all_upto fun q hq => HG1.out q hq (by omega)
          clear HG1
          go_wp2
          rw [rounds_succ]
          go_wp2
          go_loopw [37] (fun vi wr => ∃ j : Nat, j ≤ c.length ∧ vi = .int .i64 j ∧ Hid (∀ q (hq : q < c.length), q < j → good 2 c[q] = true) ∧ Hid (Laid w wr w.heap.size (max 1 (min room 256)) a b c A1 A2 A3 a1 a2 a3)) (fun vi _ => c.length - (intOf vi).toNat)
          case atStart => exact ⟨0, Nat.zero_le _, rfl, fun q hq h => absurd h (by omega), HL1.out⟩
          case round =>
            clear HL1
            obtain ⟨j2, hj2, rfl, HG2, HL2⟩ := hrel
            by_cases hlt2 : j2 < c.length
            · obtain ⟨x, hx⟩ : ∃ x, x = c[j2] := ⟨_, rfl⟩
              obtain ⟨gr, o, hA, hgl, x0, x1, x2, x3⟩ := HL2.out.elem2 hlt2 hx
              subst hA
              have HX := hide hx
              clear hx
              obtain ⟨k, nm, ar, pl⟩ := x
              simp only at x0 x1 x2 x3
              go_wp2_with (go_at_call 55; refine (pmay_any k nm ar pl _).mono ?_; rintro e w6 ⟨rfl, hb6⟩; obtain ⟨k0, HL6⟩ := HL2.out.behind hb6; clear hb6)
              all_goals first | (go_ret2; (have hb9 : good 2 c[j2] = false := (by rw [← HX.out]; simp_all [good])); exact ⟨.pointer none, by rw [ofM_bad (fun h => not_all (hj := hlt2) hb9 h.2.2)]; rfl, HL6.out.hB, by rw [ofM_bad (fun h => not_all (hj := hlt2) hb9 h.2.2)]; rfl⟩) | (go_roundw; (case rel => exact ⟨j2 + 1, by omega, by go_num, good_step HG2.out HX.out (by simp_all [good]), HL6.out⟩); (case measure => simp [intOf]; omega))
            · have G2 : Hid (c.all (good 2) = true) := all_upto fun q hq => HG2.out q hq (by omega)
              clear HG2
              go_wp2
              rw [rounds_succ]
              go_wp2
              have hbk := HL2.out.hb
              have c0 := blk_cell hbk 0
              have c1 := blk_cell hbk 1
              have c2 := blk_cell hbk 2
              have c3 := blk_cell hbk 3
              simp at c0 c1 c2 c3
              have HE := hide (⟨G0.out, G1.out, G2.out⟩ : a.all (good 0) = true ∧ b.all (good 1) = true ∧ c.all (good 2) = true)
              clear hbk i0 i1 i2 G0 G1 G2
              obtain ⟨rm, hrm⟩ : ∃ rm, rm = max 1 (min room 256) := ⟨_, rfl⟩
              rw [← hrm] at c0
              have HRM := hide hrm
              have hfit : decide (rm < (a.length : Int) + b.length + c.length) = true ∨ decide (rm < (a.length : Int) + b.length + c.length) = false := by cases decide (rm < (a.length : Int) + b.length + c.length) <;> simp
              clear hrm
              rcases hfit with hfit | hfit
              · go_quiet ((go_at_call 24; exact Calls.quiet_of_same (plen_raw _ A1 A2 A3 a.length b.length c.length a1 a2 a3 _ (by omega) c1 c2 c3)))
                go_wp2
                go_ret2
                have he : ofM room a b c = (none, 240) := by
                  unfold ofM
                  rw [if_pos HE.out, ← HRM.out, if_pos (by have := of_decide_eq_true hfit; omega)]
                rw [he]
                exact ⟨.pointer none, rfl, below_drewN HL2.out.hB _, rfl⟩
              · go_quiet ((go_at_call 24; exact Calls.quiet_of_same (plen_raw _ A1 A2 A3 a.length b.length c.length a1 a2 a3 _ (by omega) c1 c2 c3)))
                go_wp2
                go_ret2
                have hnf : ¬ rm < ((a.length + b.length + c.length : Nat) : Int) := by have := of_decide_eq_false hfit; omega
                have he : ofM room a b c = (some ⟨rm, a, b, c⟩, 0) := by
                  unfold ofM
                  rw [if_pos HE.out, ← HRM.out, if_neg hnf]
                rw [he]
                have hL := HL2.out
                rw [← HRM.out] at hL
                exact ⟨.pointer (some ⟨w.heap.size, 0, none⟩), rfl, below_drewN hL.hB _, (hL.below (below_drewN (Below.refl _ _) _)).got ⟨by have := HRM.out; show 1 ≤ rm; omega, by have := HRM.out; show rm ≤ 256; omega, by simp only [M.len]; omega, fun e he => of_calls HE.out.2.2 e he⟩⟩
end Go.Proofs.Ytbobjecjopmnfaa
