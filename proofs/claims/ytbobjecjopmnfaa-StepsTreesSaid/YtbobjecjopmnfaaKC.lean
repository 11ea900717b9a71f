/- The walk of Take. -/
import Derived.Test.YtbobjecjopmnfaaKB
namespace Go.Proofs.Ytbobjecjopmnfaa
open Go.RowKit
open Pt (szL sz encL enc roots encL_length roots_length enc_length shift RT)
/-- Take's boxes, and her result's. -/
structure Tk4 (w W : World) (A : Option Addr) (c : Nat) (l : List Nd) (leaf : Int) (BA : Option Addr) (bc : Nat) (b : List Nd) : Prop where
  ht : W.heap[w.heap.size]? = some (.cells #[.slice A l.length c] 59 (0, 0))
  hl : W.heap[w.heap.size + 1]? = some (.cells #[.int .i64 leaf] 3 (0, 0))
  hb : W.heap[w.heap.size + 1 + 1]? = some (.cells #[.slice BA b.length bc] 59 (0, 0))
  hr : W.heap[w.heap.size + 1 + 1 + 1]? = some (.cells #[.slice none 0 0] 59 (0, 0))
  hB : Below w.heap.size w W
theorem Tk4.below {w W W' : World} {A BA : Option Addr} {c bc : Nat} {l b : List Nd} {leaf : Int} (h : Tk4 w W A c l leaf BA bc b) (hb : Below W.heap.size W W') : Tk4 w W' A c l leaf BA bc b :=
  ⟨box_same h.ht hb, box_same h.hl hb, box_same h.hb hb, box_same h.hr hb, below_then h.hB hb⟩
theorem Tk4.cells {w W : World} {A BA : Option Addr} {c bc : Nat} {l b : List Nd} {leaf : Int} (h : Tk4 w W A c l leaf BA bc b) :
    W.cell? ⟨w.heap.size, 0, none⟩ = some (.slice A l.length c) ∧ W.cell? ⟨w.heap.size + 1, 0, none⟩ = some (.int .i64 leaf) ∧ W.cell? ⟨w.heap.size + 1 + 1, 0, none⟩ = some (.slice BA b.length bc) :=
  ⟨by simpa using blk_cell h.ht 0, by simpa using blk_cell h.hl 0, by simpa using blk_cell h.hb 0⟩
theorem Tk4.start (w : World) (A BA : Option Addr) (c bc : Nat) (l b : List Nd) (leaf : Int) :
    Tk4 w ((((w.alloc (.cells #[.slice A l.length c] 59)).alloc (.cells #[.int .i64 leaf] 3)).alloc (.cells #[.slice BA b.length bc] 59)).alloc (.cells #[.slice none 0 0] 59)) A c l leaf BA bc b :=
  ⟨blk_alloc (blk_alloc (blk_alloc (heap_alloc_new _ _) _) _) _, blk_alloc (blk_alloc (blk_new (by simp)) _) _, blk_alloc (blk_new (by simp)) _, blk_new (by simp),
    ((((Below.refl _ _).alloc (Nat.le_refl _) _).alloc (by simp) _).alloc (by simp; omega) _).alloc (by simp; omega) _⟩
/-- What a callee made, stored into the caller's result, wherever that lies. -/
theorem MadeT.back_at {w W w' : World} {l : List Nd} {e : Ending} {cs : Array Value} {g : Nat} (hB : Below w.heap.size w W) (hw : w.heap.size ≤ g) (hg : W.heap[g]? = some (.cells cs 59 (0, 0))) (h : MadeT l W e w') :
    ∃ A c, e = .returned (.agg #[.slice A l.length c]) ∧ w'.heap[g]? = some (.cells cs 59 (0, 0)) ∧ MadeT l w e (w'.setCell ⟨g, 0, none⟩ (.slice A l.length c)) := by
  obtain ⟨A, c, rfl, h1, h2⟩ := h
  have hg' := box_same hg h2
  refine ⟨A, c, rfl, hg', A, c, rfl, ?_, (below_then hB h2).setCell hw _⟩
  exact (h1.mono (fun b hb _ => Nat.le_trans hB.size hb)).poke hg' (by decide) (by decide) _
set_option maxHeartbeats 8000000 in
theorem take_keep {okt okb : Nat → Prop} {A BA : Option Addr} {c bc : Nat} (l b : List Nd) (leaf : Int) (rd : List Int) (w : World) (H0 : Rds El.nd w okt (.slice A l.length c) l) (H1 : Rds El.nd w okb (.slice BA b.length bc) b)
    (hl : Fits22 l) (hb : Fits22 b) (hrl : rd.length ≤ 1000) (hrd : ∀ W, Below w.heap.size w W → Calls Try.prog 42 #[.agg #[.slice A l.length c]] W (MadeI rd W)) (hc : rightB b = false ∨ (rightB b = true ∧ rd.contains leaf = false)) :
    Calls Try.prog 38 #[.agg #[.slice A l.length c], .int .i64 leaf, .agg #[.slice BA b.length bc]] w (MadeT l w) := by
  have hq := fun W hB => right_any b W (H1.below hB) hb
  have hcp := fun W hB => copied_any l W (H0.below hB) hl
  have HQ := hide hq
  have HCP := hide hcp
  have HRD := hide hrd
  have T0 := hide (Tk4.start w A BA c bc l b leaf)
  clear hq hcp hrd hl hb H0 H1
  rcases hc with hc | ⟨hc, hc2⟩
  · have HC := hide hc
    clear hc
    go_enter Try.func38, Try.ntmps38
    go_wp2
    go_region_law ((go_simp; go_at_call 41; refine (HQ.out _ (T0.out.below (by repeat (first | exact Below.refl _ _ | refine Below.drew ?_ | refine below_drewN ?_ _ | refine Below.alloc ?_ (by simp) _))).hB).mono ?_; rw [HC.out]; rintro e w2 ⟨rfl, hb2⟩; have T2 := hide ((T0.out.below (by repeat (first | exact Below.refl _ _ | refine Below.drew ?_ | refine below_drewN ?_ _ | refine Below.alloc ?_ (by simp) _))).below hb2); clear hb2))
    all_goals
      have t2 := T2.out.cells.1
      have tl := blk_lt T2.out.ht
      go_wp2_with (go_at_call 67; refine (HCP.out _ T2.out.hB).mono ?_; intro e w5 hm5; obtain ⟨A5, c5, rfl, hg5, hm6⟩ := MadeT.back_at (w := w) T2.out.hB (by omega) T2.out.hr hm5; have r0 := blk_cell hg5 0; have rf := blk_frozen hg5 0; have rl := blk_lt hg5; simp at r0; have HM6 := hide hm6; clear hm5 hm6 hg5)
      exact bodyPost_ret (v := .agg #[.slice A5 l.length c5]) (by simp [results, Try.results38, go_sem, r0]) rfl HM6.out
  · have HC := hide hc
    have HC2 := hide hc2
    clear hc hc2
    go_enter Try.func38, Try.ntmps38
    go_wp2
    go_region_law (first | (go_simp; go_at_call 41; refine (HQ.out _ (T0.out.below (by repeat (first | exact Below.refl _ _ | refine Below.drew ?_ | refine below_drewN ?_ _ | refine Below.alloc ?_ (by simp) _))).hB).mono ?_; rw [HC.out]; rintro e w2 ⟨rfl, hb2⟩; have T2 := hide ((T0.out.below (by repeat (first | exact Below.refl _ _ | refine Below.drew ?_ | refine below_drewN ?_ _ | refine Below.alloc ?_ (by simp) _))).below hb2); obtain ⟨t20, t21, t22⟩ := T2.out.cells; have tl20 := blk_lt T2.out.ht; have tl21 := blk_lt T2.out.hl; clear hb2) | (go_simp; go_at_call 42; refine (HRD.out _ T2.out.hB).mono ?_; rintro e w3 ⟨RA, rc, rfl, hrow3, -, hb3⟩; have T3 := hide (T2.out.below hb3); obtain ⟨t30, t31, t32⟩ := T3.out.cells; have tl30 := blk_lt T3.out.ht; have tl31 := blk_lt T3.out.hl; have HRW := hide (Rds.of_ints (hrow3.rd (ok := fun _ => True) (fun _ _ => trivial))); clear hb3 hrow3) | (go_simp; go_at_call 66; refine (contains_int rd leaf (by omega) _ HRW.out).mono ?_; rw [HC2.out]; rintro e w4 ⟨rfl, n4, rfl⟩; have T4 := hide (T3.out.below (below_drewN (Below.refl _ _) n4))))
    all_goals
      have t2 := T4.out.cells.1
      have tl := blk_lt T4.out.ht
      go_wp2_with (go_at_call 67; refine (HCP.out _ T4.out.hB).mono ?_; intro e w5 hm5; obtain ⟨A5, c5, rfl, hg5, hm6⟩ := MadeT.back_at (w := w) T4.out.hB (by omega) T4.out.hr hm5; have r0 := blk_cell hg5 0; have rf := blk_frozen hg5 0; have rl := blk_lt hg5; simp at r0; have HM6 := hide hm6; clear hm5 hm6 hg5)
      exact bodyPost_ret (v := .agg #[.slice A5 l.length c5]) (by simp [results, Try.results38, go_sem, r0]) rfl HM6.out
set_option maxHeartbeats 8000000 in
theorem take_real {okt okb : Nat → Prop} {A BA : Option Addr} {c bc : Nat} (l : List Nd) (p q : Pt) (leaf : Int) (w : World) (H0 : Rds El.nd w okt (.slice A l.length c) l) (H1 : Rds El.nd w okb (.slice BA (encO q).length bc) (encO q))
    (hp : RT p) (he : l = enc 0 p) (hl : Fits22 l) (hl3 : l.length ≤ 300) (hq : TN q) (hql : lenO q ≤ 300) (hr : leaf ∈ readyT 0 p) :
    Calls Try.prog 38 #[.agg #[.slice A l.length c], .int .i64 leaf, .agg #[.slice BA (encO q).length bc]] w (MadeT (encO (anewT 0 leaf q p)) w) := by
  have hb : Fits22 (encO q) := (encO_fits hq (by omega)).fits
  have hq1 := fun W hB => right_any (encO q) W (H1.below hB) hb
  have hrq : rightB (encO q) = true := (rightB_iff _).2 (by
    rcases hq with rfl | h
    · exact .inl rfl
    · exact .inr ⟨q, h, encO_RT h⟩)
  have hrd := fun W hB => ready_right l p W (H0.below hB) hl hp he
  have hct : (readyT 0 p).contains leaf = true := by simpa using hr
  have hrl : (readyT 0 p).length ≤ 1000 := by
    have h1 := readyT_len p 0
    have h2 : l.length = sz p := by rw [he, enc_length]
    omega
  obtain ⟨rd, hrd'⟩ : ∃ rd, rd = readyT 0 p := ⟨_, rfl⟩
  rw [← hrd'] at hrd hct hrl
  have hh : Here l 0 p := by
    unfold Here
    rw [he, List.drop_zero, List.take_of_length_le (by rw [enc_length]; exact Nat.le_refl _)]
  have hll : l.length = sz p := by rw [he, enc_length]
  have htk := fun (W : World) bt bl bb ba hB (hT : Tak W A c l leaf BA bc (encO q) bt bl bb ba) => take1_any H0 H1 hl3 hq hql (sz p) p (Nat.le_refl _) 0 W hp hh hB hT
  rw [show ((0 + sz p : Nat) - 1 : Int) = (l.length : Int) - 1 by rw [hll]; omega] at htk
  obtain ⟨r, hr'⟩ : ∃ r, r = encO (anewT 0 leaf q p) := ⟨_, rfl⟩
  obtain ⟨b, hb'⟩ : ∃ b, b = encO q := ⟨_, rfl⟩
  rw [← hr'] at htk ⊢
  rw [← hb'] at htk hq1 hrq ⊢
  have hpos := Pt.sz_pos p
  have hl0 : 0 < l.length := by omega
  have HQ := hide hq1
  have HRD := hide hrd
  have HTK := hide htk
  have HC := hide hrq
  have HC2 := hide hct
  have T0 := hide (Tk4.start w A BA c bc l b leaf)
  clear hq1 hrd htk hrq hct hl hb H0 H1 hr hrd' hr' hb' hh he hp hq hpos hll
  go_enter Try.func38, Try.ntmps38
  go_wp2
  go_region_law (first | (go_simp; go_at_call 41; refine (HQ.out _ (T0.out.below (by repeat (first | exact Below.refl _ _ | refine Below.drew ?_ | refine below_drewN ?_ _ | refine Below.alloc ?_ (by simp) _))).hB).mono ?_; rw [HC.out]; rintro e w2 ⟨rfl, hb2⟩; have T2 := hide ((T0.out.below (by repeat (first | exact Below.refl _ _ | refine Below.drew ?_ | refine below_drewN ?_ _ | refine Below.alloc ?_ (by simp) _))).below hb2); obtain ⟨t20, t21, t22⟩ := T2.out.cells; have tl20 := blk_lt T2.out.ht; have tl21 := blk_lt T2.out.hl; clear hb2) | (go_simp; go_at_call 42; refine (HRD.out _ T2.out.hB).mono ?_; rintro e w3 ⟨RA, rc, rfl, hrow3, -, hb3⟩; have T3 := hide (T2.out.below hb3); obtain ⟨t30, t31, t32⟩ := T3.out.cells; have tl30 := blk_lt T3.out.ht; have tl31 := blk_lt T3.out.hl; have HRW := hide (Rds.of_ints (hrow3.rd (ok := fun _ => True) (fun _ _ => trivial))); clear hb3 hrow3) | (go_simp; go_at_call 66; refine (contains_int rd leaf (by omega) _ HRW.out).mono ?_; rw [HC2.out]; rintro e w4 ⟨rfl, n4, rfl⟩; have T4 := hide (T3.out.below (below_drewN (Below.refl _ _) n4))))
  all_goals
    obtain ⟨W, hW⟩ : ∃ W, W = w3.drewN n4 := ⟨_, rfl⟩
    rw [← hW] at T4 ⊢
    clear hW T3 t30 t31 t32 tl30 tl31 HRW T2 t20 t21 t22 tl20 tl21
    obtain ⟨t0, -, -⟩ := T4.out.cells
    have tl := blk_lt T4.out.ht
    go_wp2_with (go_at_call 68; refine (HTK.out _ w.heap.size (w.heap.size + 1) (w.heap.size + 1 + 1) W.heap.size (T4.out.hB.alloc T4.out.hB.size _) ⟨blk_alloc T4.out.ht _, blk_alloc T4.out.hl _, blk_alloc T4.out.hb _, heap_alloc_new _ _⟩).mono ?_; intro e w5 hm5; obtain ⟨A5, c5, rfl, hg5, hm6⟩ := MadeT.back_at (w := w) (T4.out.hB.alloc T4.out.hB.size _) (by omega) (blk_alloc T4.out.hr _) hm5; have r0 := blk_cell hg5 0; have rf := blk_frozen hg5 0; have rl := blk_lt hg5; simp at r0; have HM6 := hide hm6; clear hm5 hm6 hg5)
    exact bodyPost_ret (v := .agg #[.slice A5 r.length c5]) (by simp [results, Try.results38, go_sem, r0]) rfl HM6.out
end Go.Proofs.Ytbobjecjopmnfaa
