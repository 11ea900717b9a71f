/- The walks of all, InOrder, Beside. -/
import Derived.Test.YtbobjecjopmnfaaKC
namespace Go.Proofs.Ytbobjecjopmnfaa
open Go.RowKit
open Pt (szL sz encL enc roots encL_length roots_length enc_length shift RT)
def wrongB (t : List Nd) : Bool := !rightB t
def SaysB (b : Bool) (w : World) (e : Ending) (w' : World) : Prop := e = .returned (.bool b) ∧ Below w.heap.size w w'
def SaysI (b : Bool) (w : World) (e : Ending) (w' : World) : Prop := ∃ r : Int, e = .returned (.int .i64 r) ∧ -1 ≤ r ∧ (decide (0 ≤ r) = b) ∧ Below w.heap.size w w'
theorem all1_any {ok : Nat → Prop} {A : Option Addr} {c : Nat} (l : List Nd) (w : World) (h : Rds El.nd w ok (.slice A l.length c) l) (hf : Fits22 l) : Calls Try.prog 85 #[.agg #[.slice A l.length c]] w (SaysB (wrongB l) w) := by
  have hq := fun W hB => right_any l W (h.below hB) hf
  have HQ := hide hq
  clear hq h hf
  unfold wrongB
  obtain ⟨r, hr⟩ : ∃ r, r = rightB l := ⟨_, rfl⟩
  rw [← hr] at HQ ⊢
  clear hr
  go_enter Try.func85, Try.ntmps85
  go_wp2_with (go_at_call 41; refine (HQ.out _ (by repeat (first | exact Below.refl _ _ | refine Below.drew ?_ | refine below_drewN ?_ _ | refine Below.alloc ?_ (by simp) _))).mono ?_; rintro e w2 ⟨rfl, hb2⟩; have hB : Below w.heap.size w w2 := below_then (by repeat (first | exact Below.refl _ _ | refine Below.drew ?_ | refine below_drewN ?_ _ | refine Below.alloc ?_ (by simp) _)) hb2; have HB2 := hide hB; clear hb2 hB)
  go_ret
  exact ⟨rfl, HB2.out⟩
set_option maxHeartbeats 2000000 in
theorem indexfunc_tree {ok : Nat → Prop} {A : Option Addr} {n c : Nat} (rows : List (List Nd)) (hn : n = rows.length) (hl : n ≤ 100000) (w : World) (h : Rds (El.row El.nd) w ok (.slice A n c) rows) (hf : ∀ r ∈ rows, Fits22 r) :
    Calls Try.prog 86 #[.slice A n c, .func (.func 85) #[] #[]] w (SaysI (rows.any wrongB) w) := by
  have H := hide h
  have HF := hide hf
  have HN := hide hn
  clear h hf hn
  go_enter Try.func86, Try.ntmps86
  go_wp2
  go_loopw [8] (fun i wr => ∃ (j : Nat), j ≤ n ∧ i = .int .i64 j ∧ Hid ((rows.take j).any wrongB = false) ∧ Hid (Below w.heap.size w wr)) (fun i _ => n - (intOf i).toNat)
  case atStart => exact ⟨0, Nat.zero_le _, rfl, rfl, Below.refl _ _⟩
  case round =>
    obtain ⟨j, hj, rfl, HA, HB⟩ := hrel
    by_cases hlt2 : j < n
    · obtain ⟨t, ht⟩ : ∃ t, rows[j]? = some t := ⟨_, List.getElem?_eq_getElem (by rw [← HN.out]; exact hlt2)⟩
      obtain ⟨ad, TA, tc, hA, x0, htr⟩ := H.out.row_at HB.out ht
      have hc := all1_any t wr (htr.below HB.out) (HF.out t (List.mem_of_getElem? ht))
      have HC := hide hc
      have HT := hide ht
      subst hA
      clear hc ht htr
      obtain ⟨b, hb⟩ : ∃ b, b = wrongB t := ⟨_, rfl⟩
      rw [← hb] at HC
      have HBB := hide hb
      clear hb
      go_wp2_with (go_at_call 85; refine HC.out.mono ?_; rintro e w2 ⟨rfl, hb2⟩; have HB2 := hide (below_then HB.out hb2); clear hb2)
      · have hh : b = true := by assumption
        go_ret
        refine ⟨j, rfl, by omega, ?_, HB2.out⟩
        have : rows.any wrongB = true := List.any_eq_true.2 ⟨t, List.mem_of_getElem? HT.out, by rw [← HBB.out]; exact hh⟩
        simp [this]
      · have hh : b = false := by assumption
        go_roundw
        case rel =>
          refine ⟨j + 1, by omega, by go_num, ?_, HB2.out⟩
          obtain ⟨hj, hje⟩ := List.getElem?_eq_some_iff.1 HT.out
          show (rows.take (j + 1)).any wrongB = false
          rw [List.take_succ_eq_append_getElem hj, hje, List.any_append, HA.out]
          simp [← HBB.out, hh]
        case measure => simp [intOf]; omega
    · go_wp2
      go_ret
      refine ⟨-1, rfl, by omega, ?_, HB.out⟩
      have h1 := HA.out
      rw [List.take_of_length_le (by have := HN.out; omega)] at h1
      rw [h1]
      rfl
theorem containsfunc_tree {ok : Nat → Prop} {A : Option Addr} {n c : Nat} (rows : List (List Nd)) (hn : n = rows.length) (hl : n ≤ 100000) (w : World) (h : Rds (El.row El.nd) w ok (.slice A n c) rows) (hf : ∀ r ∈ rows, Fits22 r) :
    Calls Try.prog 84 #[.slice A n c, .func (.func 85) #[] #[]] w (SaysB (rows.any wrongB) w) := by
  have hc := indexfunc_tree rows hn hl w h hf
  have HC := hide hc
  clear hc h hf hn
  go_enter Try.func84, Try.ntmps84
  go_wp2_with (go_at_call 86; refine HC.out.mono ?_; rintro e w' ⟨r, rfl, hr, hd, hb⟩; have HD := hide hd; have HB := hide hb; clear hd hb)
  go_ret
  refine ⟨?_, HB.out⟩
  show Ending.returned (.bool (decide (0 ≤ r))) = _
  rw [HD.out]
/-- What all makes. -/
def allR (op : Int) (rows : List (List Nd)) : List Nd := if rows.any wrongB = true then [] else putR op rows
set_option maxHeartbeats 2000000 in
theorem all_any {ok : Nat → Prop} {A : Option Addr} {n c : Nat} (op : Int) (rows : List (List Nd)) (hn : n = rows.length) (hl : n ≤ 1000) (w : World) (h : Rds (El.row El.nd) w ok (.slice A n c) rows) (hf : ∀ r ∈ rows, Fits22 r) (hk : rows.any wrongB = false → ∀ r ∈ rows, FitsK r) :
    Calls Try.prog 76 #[.int .u8 op, .slice A n c] w (MadeT (allR op rows) w) := by
  have hc := fun W hB => containsfunc_tree rows hn (by omega) W (h.below hB) hf
  have hp := fun hw W hB => sput_any op rows W (by rw [← hn]; exact h.below hB) (by omega) (hk hw)
  rw [← hn] at hp
  have HC := hide hc
  have HP := hide hp
  clear hc hp h hf hk hn
  unfold allR
  by_cases hw : rows.any wrongB = true
  · rw [if_pos hw]
    rw [hw] at HC
    clear hw HP
    go_enter Try.func76, Try.ntmps76
    go_wp2_with (go_at_call 84; refine (HC.out _ (by repeat (first | exact Below.refl _ _ | refine Below.drew ?_ | refine below_drewN ?_ _ | refine Below.alloc ?_ (by simp) _))).mono ?_; rintro e w2 ⟨rfl, hb2⟩; have hg := box_same (g := w.heap.size) (o := .cells #[.slice none 0 0] 59 (0, 0)) (heap_alloc_new w _) hb2; have r0 := blk_cell hg 0; have rf := blk_frozen hg 0; have rl := blk_lt hg; simp at r0; have hB : Below w.heap.size w w2 := below_then (by repeat (first | exact Below.refl _ _ | refine Below.drew ?_ | refine below_drewN ?_ _ | refine Below.alloc ?_ (by simp) _)) hb2; have HB := hide hB; clear hB hb2 hg)
    refine bodyPost_ret (v := .agg #[.slice none 0 0]) (by simp [results, Try.results76, go_sem, r0]) rfl ⟨none, 0, rfl, OwnP.nil _ _ _ _, HB.out.setCell (Nat.le_refl _) _⟩
  · have hw' : rows.any wrongB = false := by simpa using hw
    rw [if_neg hw]
    have HP2 := hide (HP.out hw')
    rw [hw'] at HC
    clear hw hw' HP
    go_enter Try.func76, Try.ntmps76
    go_wp2_with (first | (go_at_call 84; refine (HC.out _ (by repeat (first | exact Below.refl _ _ | refine Below.drew ?_ | refine below_drewN ?_ _ | refine Below.alloc ?_ (by simp) _))).mono ?_; rintro e w2 ⟨rfl, hb2⟩; have hg := box_same (g := w.heap.size) (o := .cells #[.slice none 0 0] 59 (0, 0)) (heap_alloc_new w _) hb2; have HG := hide hg; have hB : Below w.heap.size w w2 := below_then (by repeat (first | exact Below.refl _ _ | refine Below.drew ?_ | refine below_drewN ?_ _ | refine Below.alloc ?_ (by simp) _)) hb2; have HB := hide hB; clear hB hb2 hg) | (go_at_call 69; refine (HP2.out _ HB.out).mono ?_; intro e w5 hm5; obtain ⟨A5, c5, rfl, hg5, hm6⟩ := MadeT.back (w := w) HB.out HG.out hm5; have r0 := blk_cell hg5 0; have rf := blk_frozen hg5 0; have rl := blk_lt hg5; simp at r0; have HM6 := hide hm6; clear hm5 hm6 hg5))
    exact bodyPost_ret (v := .agg #[.slice A5 (putR op rows).length c5]) (by simp [results, Try.results76, go_sem, r0]) rfl HM6.out
theorem inorder_any {ok : Nat → Prop} {A : Option Addr} {n c : Nat} (rows : List (List Nd)) (hn : n = rows.length) (hl : n ≤ 1000) (w : World) (h : Rds (El.row El.nd) w ok (.slice A n c) rows) (hf : ∀ r ∈ rows, Fits22 r) (hk : rows.any wrongB = false → ∀ r ∈ rows, FitsK r) :
    Calls Try.prog 46 #[.slice A n c] w (MadeT (allR 1 rows) w) := by
  have hc := fun W hB => all_any 1 rows hn hl W (h.below hB) hf hk
  have HC := hide hc
  clear hc h hf hk hn
  go_enter Try.func46, Try.ntmps46
  go_wp2_with (go_at_call 76; refine (HC.out _ (by repeat (first | exact Below.refl _ _ | refine Below.drew ?_ | refine below_drewN ?_ _ | refine Below.alloc ?_ (by simp) _))).mono ?_; intro e w5 hm5; obtain ⟨A5, c5, rfl, hg5, hm6⟩ := MadeT.back (w := w) (by repeat (first | exact Below.refl _ _ | refine Below.drew ?_ | refine below_drewN ?_ _ | refine Below.alloc ?_ (by simp) _)) (heap_alloc_new w _) hm5; have r0 := blk_cell hg5 0; have rf := blk_frozen hg5 0; have rl := blk_lt hg5; simp at r0; have HM6 := hide hm6; clear hm5 hm6 hg5)
  exact bodyPost_ret (v := .agg #[.slice A5 (allR 1 rows).length c5]) (by simp [results, Try.results46, go_sem, r0]) rfl HM6.out
theorem beside_any {ok : Nat → Prop} {A : Option Addr} {n c : Nat} (rows : List (List Nd)) (hn : n = rows.length) (hl : n ≤ 1000) (w : World) (h : Rds (El.row El.nd) w ok (.slice A n c) rows) (hf : ∀ r ∈ rows, Fits22 r) (hk : rows.any wrongB = false → ∀ r ∈ rows, FitsK r) :
    Calls Try.prog 47 #[.slice A n c] w (MadeT (allR 2 rows) w) := by
  have hc := fun W hB => all_any 2 rows hn hl W (h.below hB) hf hk
  have HC := hide hc
  clear hc h hf hk hn
  go_enter Try.func47, Try.ntmps47
  go_wp2_with (go_at_call 76; refine (HC.out _ (by repeat (first | exact Below.refl _ _ | refine Below.drew ?_ | refine below_drewN ?_ _ | refine Below.alloc ?_ (by simp) _))).mono ?_; intro e w5 hm5; obtain ⟨A5, c5, rfl, hg5, hm6⟩ := MadeT.back (w := w) (by repeat (first | exact Below.refl _ _ | refine Below.drew ?_ | refine below_drewN ?_ _ | refine Below.alloc ?_ (by simp) _)) (heap_alloc_new w _) hm5; have r0 := blk_cell hg5 0; have rf := blk_frozen hg5 0; have rl := blk_lt hg5; simp at r0; have HM6 := hide hm6; clear hm5 hm6 hg5)
  exact bodyPost_ret (v := .agg #[.slice A5 (allR 2 rows).length c5]) (by simp [results, Try.results47, go_sem, r0]) rfl HM6.out
end Go.Proofs.Ytbobjecjopmnfaa
