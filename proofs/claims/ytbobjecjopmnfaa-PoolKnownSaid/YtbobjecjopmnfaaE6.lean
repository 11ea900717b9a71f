/- The walk of Of (the reference's). -/
import Derived.Test.YtbobjecjopmnfaaE5
namespace Go.Proofs.Ytbobjecjopmnfaa
open Go.RowKit
/-- A row has been made in new memory, and its value stored into the pool's block. -/
theorem rof_step {W W1 : World} {g : Nat} {cs : Array Value} {v : Value} {q : Nat} (hg : W.heap[g]? = some (.cells cs 92 (0, 0))) (ho : Only (Fp (.slice none 0 0)) W W1) (hf : ∀ b, Fp v b → Fp (.slice none 0 0) b ∨ W.heap.size ≤ b) :
    W1.heap[g]? = some (.cells cs 92 (0, 0)) ∧ Below W.heap.size W W1 ∧ (∀ b, Fp v b → W.heap.size ≤ b) ∧ (W1.setCell ⟨g, q, none⟩ v).heap[g]? = some (.cells (cs.setIfInBounds q v) 92 (0, 0)) := by
  have hB := ho.below (B := W.heap.size) (fun b h => (Fp_none h).elim) (Nat.le_refl _)
  have hg1 := (hB.block g (blk_lt hg)).trans hg
  exact ⟨hg1, hB, fun b h => (hf b h).elim (fun h => (Fp_none h).elim) id, blk_set hg1 q v⟩
theorem rof_set {w W w2 : World} {g : Nat} (h : Below w.heap.size w W) (h2 : Below W.heap.size W w2) (hg : w.heap.size ≤ g) (q : Nat) (v : Value) : Below w.heap.size w (w2.setCell ⟨g, q, none⟩ v) :=
  (below_then h h2).setCell (p := ⟨g, q, none⟩) hg v
theorem rof_got {w wr w2 w4 w6 : World} {room : Int} {a b c : List Ev} {A B C : Option Addr} {ca cb cc : Nat} (hBr : Below w.heap.size w wr)
    (hb2 : Below (wr.alloc (pool0 room 92)).heap.size (wr.alloc (pool0 room 92)) w2) (r0 : Row w2 94 4 (.slice A a.length ca) a.length (cells a)) (f0 : ∀ q, Fp (.slice A a.length ca) q → (wr.alloc (pool0 room 92)).heap.size ≤ q)
    (hb4 : Below (w2.setCell ⟨wr.heap.size, 1, none⟩ (.slice A a.length ca)).heap.size (w2.setCell ⟨wr.heap.size, 1, none⟩ (.slice A a.length ca)) w4) (r1 : Row w4 94 4 (.slice B b.length cb) b.length (cells b)) (f1 : ∀ q, Fp (.slice B b.length cb) q → (w2.setCell ⟨wr.heap.size, 1, none⟩ (.slice A a.length ca)).heap.size ≤ q)
    (hb6 : Below (w4.setCell ⟨wr.heap.size, 2, none⟩ (.slice B b.length cb)).heap.size (w4.setCell ⟨wr.heap.size, 2, none⟩ (.slice B b.length cb)) w6) (r2 : Row w6 94 4 (.slice C c.length cc) c.length (cells c)) (f2 : ∀ q, Fp (.slice C c.length cc) q → (w4.setCell ⟨wr.heap.size, 2, none⟩ (.slice B b.length cb)).heap.size ≤ q)
    (hOk : M.Ok ⟨max 1 (min room 256), a, b, c⟩) :
    Below w.heap.size w (w6.setCell ⟨wr.heap.size, 3, none⟩ (.slice C c.length cc)) ∧ Got 92 94 w (w6.setCell ⟨wr.heap.size, 3, none⟩ (.slice C c.length cc)) (.pointer (some ⟨wr.heap.size, 0, none⟩)) (some ⟨max 1 (min room 256), a, b, c⟩) := by
  have hg0 : (wr.alloc (pool0 room 92)).heap[wr.heap.size]? = some (pool0 room 92) := heap_alloc_new wr _
  have k0 : (wr.alloc (pool0 room 92)).heap.size = wr.heap.size + 1 := by simp
  have k1 := hBr.size
  have k2 := hb2.size
  have k3 : (w2.setCell ⟨wr.heap.size, 1, none⟩ (.slice A a.length ca)).heap.size = w2.heap.size := by simp [World.setCell]
  have k4 := hb4.size
  have k5 : (w4.setCell ⟨wr.heap.size, 2, none⟩ (.slice B b.length cb)).heap.size = w4.heap.size := by simp [World.setCell]
  have k6 := hb6.size
  have hg2 := (hb2.block wr.heap.size (by omega)).trans hg0
  unfold pool0 at hg2
  have hg3 := blk_set hg2 1 (.slice A a.length ca)
  have hg4 := (hb4.block wr.heap.size (by omega)).trans hg3
  have hg5 := blk_set hg4 2 (.slice B b.length cb)
  have hg6 := (hb6.block wr.heap.size (by omega)).trans hg5
  have hg7 := blk_set hg6 3 (.slice C c.length cc)
  have r0' := (((((r0.setCell (p := ⟨wr.heap.size, 1, none⟩) (r0.ne_ hg2 (by decide)) (.slice A a.length ca)).below hb4)).setCell (p := ⟨wr.heap.size, 2, none⟩) (((r0.setCell (p := ⟨wr.heap.size, 1, none⟩) (r0.ne_ hg2 (by decide)) (.slice A a.length ca)).below hb4).ne_ hg4 (by decide)) (.slice B b.length cb)).below hb6)
  have r1' := (r1.setCell (p := ⟨wr.heap.size, 2, none⟩) (r1.ne_ hg4 (by decide)) (.slice B b.length cb)).below hb6
  have s0 := r0'.setCell (p := ⟨wr.heap.size, 3, none⟩) (r0'.ne_ hg6 (by decide)) (.slice C c.length cc)
  have s1 := r1'.setCell (p := ⟨wr.heap.size, 3, none⟩) (r1'.ne_ hg6 (by decide)) (.slice C c.length cc)
  have s2 := r2.setCell (p := ⟨wr.heap.size, 3, none⟩) (r2.ne_ hg6 (by decide)) (.slice C c.length cc)
  have l0 := r0.lt
  have l1 := r1.lt
  refine ⟨?_, wr.heap.size, fun q => q = wr.heap.size ∨ Fp (.slice A a.length ca) q ∨ Fp (.slice B b.length cb) q ∨ Fp (.slice C c.length cc) q, rfl, ⟨_, _, _, hg7, s0, s1, s2, ?_, ?_, ?_, fun _ h => h, ?_, hOk⟩, ?_⟩
  · have e2 : Below w.heap.size w w2 := below_then (below_then hBr ((Below.refl _ _).alloc (Nat.le_refl _) _)) hb2
    have e3 := e2.setCell (p := ⟨wr.heap.size, 1, none⟩) k1 (.slice A a.length ca)
    have e5 := (below_then e3 hb4).setCell (p := ⟨wr.heap.size, 2, none⟩) k1 (.slice B b.length cb)
    exact (below_then e5 hb6).setCell (p := ⟨wr.heap.size, 3, none⟩) k1 (.slice C c.length cc)
  · exact fun q h h' => absurd (f1 q h') (by have := l0 q h; omega)
  · exact fun q h h' => absurd (f2 q h') (by have := l0 q h; omega)
  · exact fun q h h' => absurd (f2 q h') (by have := l1 q h; omega)
  · rintro q (rfl | h | h | h)
    · exact blk_lt hg7
    · exact s0.lt q h
    · exact s1.lt q h
    · exact s2.lt q h
  · rintro q (rfl | h | h | h)
    · exact k1
    · have := f0 q h; omega
    · have := f1 q h; omega
    · have := f2 q h; omega
set_option maxHeartbeats 8000000 in
theorem rof_any {ok : Nat → Prop} (room : Int) (a b c : List Ev) {A B C : Option Addr} {ca cb cc : Nat} (w : World) (ha : Rd w ok 4 (.slice A a.length ca) a.length (cells a)) (hb : Rd w ok 4 (.slice B b.length cb) b.length (cells b)) (hc : Rd w ok 4 (.slice C c.length cc) c.length (cells c))
    (la : a.length ≤ 300) (lb : b.length ≤ 300) (lc : c.length ≤ 300) :
    Calls Try.prog 29 #[.int .i64 room, .slice A a.length ca, .slice B b.length cb, .slice C c.length cc] w fun e w' => ∃ v, e = .returned (.tuple #[v, .int .i64 (ofM room a b c).2]) ∧ Below w.heap.size w w' ∧ Got 92 94 w w' v (ofM room a b c).1 := by
  have HA := hide ha
  have HB := hide hb
  have HC := hide hc
  have HW : Hid (Below w.heap.size w (w.alloc (.cells #[.slice A a.length ca, .slice B b.length cb, .slice C c.length cc] 48))) := (Below.refl _ _).alloc (Nat.le_refl _) _
  have HG := hide (heap_alloc_new w (.cells #[.slice A a.length ca, .slice B b.length cb, .slice C c.length cc] 48))
  clear ha hb hc
  go_enter Try.func29, Try.ntmps29
  go_wp2
  revert HW HG
  generalize w.alloc (.cells #[.slice A a.length ca, .slice B b.length cb, .slice C c.length cc] 48) = w1
  intro HW HG
  have HW1 : Hid (Below w1.heap.size w1 w1) := Below.refl _ _
  refine wp_loop_rounds 4 ?_
  rw [rounds_succ]
  go_wp2
  go_loopw [12] (fun vi wr => ∃ j : Nat, j ≤ a.length ∧ vi = .int .i64 j ∧ Hid (∀ q (hq : q < a.length), q < j → good 0 a[q] = true) ∧ Hid (Below w1.heap.size w1 wr)) (fun vi _ => a.length - (intOf vi).toNat)
  case atStart => exact ⟨0, Nat.zero_le _, rfl, fun q hq h => absurd h (by omega), HW1.out⟩
  case round =>
    clear HW1
    obtain ⟨j0, hj0, rfl, HG0, HW2⟩ := hrel
    have hgr := (HW2.out.block w.heap.size (blk_lt HG.out)).trans HG.out
    have y0 := blk_cell hgr 0
    have hltr := blk_lt hgr
    simp at y0
    clear hgr
    by_cases hlt2 : j0 < a.length
    · obtain ⟨x, hx⟩ : ∃ x, x = a[j0] := ⟨_, rfl⟩
      obtain ⟨ad, hA, hgl, x0, x1, x2, x3⟩ := (HA.out.below (below_then HW.out HW2.out)).get j0 hlt2 (by omega)
      rw [← hx] at x0 x1 x2 x3
      subst hA
      have HX := hide hx
      clear hx
      obtain ⟨k, nm, ar, pl⟩ := x
      simp only at x0 x1 x2 x3
      go_wp2_with (go_at_call 56; refine (rmay_any k nm ar pl _).mono ?_; rintro e w6 ⟨rfl, hb6⟩; have k0 := blk_cell (box_below hb6) 0; have HW6 := hide (below_then HW2.out (below_then ((Below.refl _ _).alloc (Nat.le_refl _) _) hb6)); clear hb6)
      all_goals first | (go_ret2; (have hb9 : good 0 a[j0] = false := (by rw [← HX.out]; simp_all [good])); exact ⟨.pointer none, by rw [ofM_bad (fun h => not_all (hj := hlt2) hb9 h.1)]; rfl, below_then HW.out HW6.out, by rw [ofM_bad (fun h => not_all (hj := hlt2) hb9 h.1)]; rfl⟩) | (go_roundw; (case rel => exact ⟨j0 + 1, by omega, by go_num, good_step HG0.out HX.out (by simp_all [good]), HW6.out⟩); (case measure => simp [intOf]; omega))
    · have G0 : Hid (a.all (good 0) = true) := all_upto fun q hq => HG0.out q hq (by omega)
      clear HG0
      go_wp2
      rw [rounds_succ]
      go_wp2
      go_loopw [12] (fun vi wr => ∃ j : Nat, j ≤ b.length ∧ vi = .int .i64 j ∧ Hid (∀ q (hq : q < b.length), q < j → good 1 b[q] = true) ∧ Hid (Below w1.heap.size w1 wr)) (fun vi _ => b.length - (intOf vi).toNat)
      case atStart => exact ⟨0, Nat.zero_le _, rfl, fun q hq h => absurd h (by omega), HW2.out⟩
      case round =>
        clear HW2
        obtain ⟨j1, hj1, rfl, HG1, HW3⟩ := hrel
        have hgr := (HW3.out.block w.heap.size (blk_lt HG.out)).trans HG.out
        have y0 := blk_cell hgr 1
        have hltr := blk_lt hgr
        simp at y0
        clear hgr
        by_cases hlt2 : j1 < b.length
        · obtain ⟨x, hx⟩ : ∃ x, x = b[j1] := ⟨_, rfl⟩
          obtain ⟨ad, hA, hgl, x0, x1, x2, x3⟩ := (HB.out.below (below_then HW.out HW3.out)).get j1 hlt2 (by omega)
          rw [← hx] at x0 x1 x2 x3
          subst hA
          have HX := hide hx
          clear hx
          obtain ⟨k, nm, ar, pl⟩ := x
          simp only at x0 x1 x2 x3
          go_wp2_with (go_at_call 56; refine (rmay_any k nm ar pl _).mono ?_; rintro e w6 ⟨rfl, hb6⟩; have k0 := blk_cell (box_below hb6) 0; have HW6 := hide (below_then HW3.out (below_then ((Below.refl _ _).alloc (Nat.le_refl _) _) hb6)); clear hb6)
          all_goals first | (go_ret2; (have hb9 : good 1 b[j1] = false := (by rw [← HX.out]; simp_all [good])); exact ⟨.pointer none, by rw [ofM_bad (fun h => not_all (hj := hlt2) hb9 h.2.1)]; rfl, below_then HW.out HW6.out, by rw [ofM_bad (fun h => not_all (hj := hlt2) hb9 h.2.1)]; rfl⟩) | (go_roundw; (case rel => exact ⟨j1 + 1, by omega, by go_num, good_step HG1.out HX.out (by simp_all [good]), HW6.out⟩); (case measure => simp [intOf]; omega))
        · have G1 : Hid (b.all (good 1) = true) := all_upto fun q hq => HG1.out q hq (by omega)
          clear HG1
          go_wp2
          rw [rounds_succ]
          go_wp2
          go_loopw [12] (fun vi wr => ∃ j : Nat, j ≤ c.length ∧ vi = .int .i64 j ∧ Hid (∀ q (hq : q < c.length), q < j → good 2 c[q] = true) ∧ Hid (Below w1.heap.size w1 wr)) (fun vi _ => c.length - (intOf vi).toNat)
          case atStart => exact ⟨0, Nat.zero_le _, rfl, fun q hq h => absurd h (by omega), HW3.out⟩
          case round =>
            clear HW3
            obtain ⟨j2, hj2, rfl, HG2, HW4⟩ := hrel
            have hgr := (HW4.out.block w.heap.size (blk_lt HG.out)).trans HG.out
            have y0 := blk_cell hgr 2
            have hltr := blk_lt hgr
            simp at y0
            clear hgr
            by_cases hlt2 : j2 < c.length
            · obtain ⟨x, hx⟩ : ∃ x, x = c[j2] := ⟨_, rfl⟩
              obtain ⟨ad, hA, hgl, x0, x1, x2, x3⟩ := (HC.out.below (below_then HW.out HW4.out)).get j2 hlt2 (by omega)
              rw [← hx] at x0 x1 x2 x3
              subst hA
              have HX := hide hx
              clear hx
              obtain ⟨k, nm, ar, pl⟩ := x
              simp only at x0 x1 x2 x3
              go_wp2_with (go_at_call 56; refine (rmay_any k nm ar pl _).mono ?_; rintro e w6 ⟨rfl, hb6⟩; have k0 := blk_cell (box_below hb6) 0; have HW6 := hide (below_then HW4.out (below_then ((Below.refl _ _).alloc (Nat.le_refl _) _) hb6)); clear hb6)
              all_goals first | (go_ret2; (have hb9 : good 2 c[j2] = false := (by rw [← HX.out]; simp_all [good])); exact ⟨.pointer none, by rw [ofM_bad (fun h => not_all (hj := hlt2) hb9 h.2.2)]; rfl, below_then HW.out HW6.out, by rw [ofM_bad (fun h => not_all (hj := hlt2) hb9 h.2.2)]; rfl⟩) | (go_roundw; (case rel => exact ⟨j2 + 1, by omega, by go_num, good_step HG2.out HX.out (by simp_all [good]), HW6.out⟩); (case measure => simp [intOf]; omega))
            · have G2 : Hid (c.all (good 2) = true) := all_upto fun q hq => HG2.out q hq (by omega)
              clear HG2
              go_wp2
              rw [rounds_succ]
              have HE := hide (⟨G0.out, G1.out, G2.out⟩ : a.all (good 0) = true ∧ b.all (good 1) = true ∧ c.all (good 2) = true)
              clear G0 G1 G2
              go_wp2_with fail
              refine (rnew_any _ _).mono ?_
              rintro e wN ⟨rfl, rfl⟩
              have hg0 : (wr.alloc (pool0 room 92)).heap[wr.heap.size]? = some (.cells #[.int .i64 (max 1 (min room 256)), .slice none 0 0, .slice none 0 0, .slice none 0 0] 92 (0, 0)) := heap_alloc_new wr _
              have c0 := blk_cell hg0 0
              have c1 := blk_cell hg0 1
              simp at c0 c1
              have HB4 : Hid (Below wr.heap.size wr (wr.alloc (pool0 room 92))) := (Below.refl _ _).alloc (Nat.le_refl _) _
              have HWR := hide (below_then HW.out HW4.out)
              have HG0 := hide hg0
              have hl0 : wr.heap.size < (wr.alloc (pool0 room 92)).heap.size := blk_lt hg0
              obtain ⟨rm, hrm⟩ : ∃ rm, rm = max 1 (min room 256) := ⟨_, rfl⟩
              rw [← hrm] at c0
              have HRM := hide hrm
              have hfit : decide (rm < (a.length : Int) + b.length + c.length) = true ∨ decide (rm < (a.length : Int) + b.length + c.length) = false := by cases decide (rm < (a.length : Int) + b.length + c.length) <;> simp
              clear hrm hg0 y0 hltr
              rcases hfit with hfit | hfit
              · go_wp2
                go_ret2
                have he : ofM room a b c = (none, 240) := by
                  unfold ofM
                  rw [if_pos HE.out, ← HRM.out, if_pos (by have := of_decide_eq_true hfit; omega)]
                rw [he]
                exact ⟨.pointer none, rfl, below_then HWR.out HB4.out, rfl⟩
              · have QA := hide (HA.out.below (below_then HWR.out HB4.out))
                have QB := hide (HB.out.below (below_then HWR.out HB4.out))
                have QC := hide (HC.out.below (below_then HWR.out HB4.out))
                have HWB4 := hide (below_then HWR.out HB4.out)
                have hwg := HWR.out.size
                go_wp2_with (first | (at_builtin; refine wpList_append_row _ rfl (.tmp 78) (.tmp 79) 48 94 rfl _ 4 40 Try.underlying48 info94 rfl (by decide) (by decide) (.slice none 0 0) 0 [] rfl (Row.nil _ _ _) ok (.slice A a.length ca) a.length (cells a) rfl QA.out (cells_one _) (by omega) ?_; intro A1q a1q w2 hrow honly hfp; simp only [Nat.zero_add, List.nil_append] at hrow hfp; obtain ⟨hg2, hb2, hf2, hs2⟩ := rof_step (q := 1) HG0.out honly hfp; have d1 := blk_cell hg2 1; have d2 := blk_cell hg2 2; have fz1 := blk_frozen hg2 1; have hl1 := blk_lt hg2; simp at d1 d2; have HG1q := hide hs2; have HR1q := hide hrow; have HF1q := hide hf2; have HB1q := hide hb2; have HS1q := hide (rof_set HWB4.out hb2 hwg 1 (.slice A1q a.length a1q)); clear hg2 hrow honly hfp hb2 hf2 hs2; have QB2 := hide (HB.out.below HS1q.out)) | (at_builtin; refine wpList_append_row _ rfl (.tmp 87) (.tmp 88) 48 94 rfl _ 4 40 Try.underlying48 info94 rfl (by decide) (by decide) (.slice none 0 0) 0 [] rfl (Row.nil _ _ _) ok (.slice B b.length cb) b.length (cells b) rfl QB2.out (cells_one _) (by omega) ?_; intro A2q a2q w4 hrow honly hfp; simp only [Nat.zero_add, List.nil_append] at hrow hfp; obtain ⟨hg2, hb2, hf2, hs2⟩ := rof_step (q := 2) HG1q.out honly hfp; have d2 := blk_cell hg2 2; have d3 := blk_cell hg2 3; have fz2 := blk_frozen hg2 2; have hl2 := blk_lt hg2; simp at d2 d3; have HG2q := hide hs2; have HR2q := hide hrow; have HF2q := hide hf2; have HB2q := hide hb2; have HS2q := hide (rof_set HS1q.out hb2 hwg 2 (.slice A2q b.length a2q)); clear hg2 hrow honly hfp hb2 hf2 hs2; have QC2 := hide (HC.out.below HS2q.out)) | (at_builtin; refine wpList_append_row _ rfl (.tmp 96) (.tmp 97) 48 94 rfl _ 4 40 Try.underlying48 info94 rfl (by decide) (by decide) (.slice none 0 0) 0 [] rfl (Row.nil _ _ _) ok (.slice C c.length cc) c.length (cells c) rfl QC2.out (cells_one _) (by omega) ?_; intro A3q a3q w6 hrow honly hfp; simp only [Nat.zero_add, List.nil_append] at hrow hfp; obtain ⟨hg2, hb2, hf2, hs2⟩ := rof_step (q := 3) HG2q.out honly hfp; have d3 := blk_cell hg2 3; have fz3 := blk_frozen hg2 3; have hl3 := blk_lt hg2; simp at d3; have HG3q := hide hs2; have HR3q := hide hrow; have HF3q := hide hf2; have HB3q := hide hb2; have HS3q := hide (rof_set HS2q.out hb2 hwg 3 (.slice A3q c.length a3q)); clear hg2 hrow honly hfp hb2 hf2 hs2))
                go_ret2
                have hnf : ¬ rm < ((a.length + b.length + c.length : Nat) : Int) := by have := of_decide_eq_false hfit; omega
                have he : ofM room a b c = (some ⟨rm, a, b, c⟩, 0) := by
                  unfold ofM
                  rw [if_pos HE.out, ← HRM.out, if_neg hnf]
                rw [he]
                obtain ⟨g1, g2⟩ := rof_got (room := room) HWR.out HB1q.out HR1q.out HF1q.out HB2q.out HR2q.out HF2q.out HB3q.out HR3q.out HF3q.out ⟨by show 1 ≤ max 1 (min room 256); omega, by show max 1 (min room 256) ≤ 256; omega, by have := HRM.out; simp only [M.len]; omega, fun e he => of_calls HE.out.2.2 e he⟩
                rw [← HRM.out] at g2
                exact ⟨.pointer (some ⟨wr.heap.size, 0, none⟩), rfl, g1, g2⟩
end Go.Proofs.Ytbobjecjopmnfaa
