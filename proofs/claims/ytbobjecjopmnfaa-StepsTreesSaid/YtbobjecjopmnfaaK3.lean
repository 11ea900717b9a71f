/- The walk of copied. -/
import Derived.Test.YtbobjecjopmnfaaK2
namespace Go.Proofs.Ytbobjecjopmnfaa
open Go.RowKit
attribute [local go_sem ↓] Go.wp_at_zero Go.wp_at_succ
/-- What copied's loop holds: two boxes, and the nodes so far. -/
structure Cop (w wr : World) (l : List Nd) (j : Nat) (A : Option Addr) (c : Nat) : Prop where
  b1 : wr.heap[w.heap.size + 1]? = some (.cells #[.slice none 0 0] 59 (0, 0))
  b2 : wr.heap[w.heap.size + 1 + 1]? = some (.cells #[.slice A j c] 59 (0, 0))
  own : OwnP El.ndO wr 76 (fun b => w.heap.size ≤ b) (.slice A j c) (l.take j)
  hb : Below w.heap.size w wr
theorem Cop.next {w wr W W' : World} {l : List Nd} {j c c' : Nat} {A A' : Option Addr} {n : Nd} (h : Cop w wr l j A c) (hB : Below wr.heap.size wr W) (ho : Only (Fp (.slice A j c)) W W') (hn : l[j]? = some n)
    (hown : OwnP El.ndO W' 76 (fun b => w.heap.size ≤ b) (.slice A' (j + 1) c') (l.take j ++ [n])) : Cop w (W'.setCell ⟨w.heap.size + 1 + 1, 0, none⟩ (.slice A' (j + 1) c')) l (j + 1) A' c' := by
  have hj : l.take (j + 1) = l.take j ++ [n] := by
    obtain ⟨hlt, rfl⟩ := List.getElem?_eq_some_iff.1 hn
    exact List.take_succ_eq_append_getElem hlt
  have hown0 := h.own.below hB
  obtain ⟨css, hr, hfp, _⟩ := hown0
  have b1 := box_same h.b1 hB
  have b2 := box_same h.b2 hB
  have n1 : ¬ Fp (.slice A j c) (w.heap.size + 1) := hr.ne_ b1 (by decide)
  have n2 : ¬ Fp (.slice A j c) (w.heap.size + 1 + 1) := hr.ne_ b2 (by decide)
  have b1' := box_only b1 ho n1
  have b2' := box_only b2 ho n2
  refine ⟨blk_far b1' (p := ⟨w.heap.size + 1 + 1, 0, none⟩) (by simp) _, blk_set b2' 0 _, by rw [hj]; exact hown.poke b2' (by decide) (by decide) _, ?_⟩
  exact ((h.hb.trans (hB.mono h.hb.size)).trans (ho.below (fun b hb => hfp b hb) (Nat.le_trans h.hb.size hB.size))).setCell (by show w.heap.size ≤ w.heap.size + 1 + 1; omega) _
theorem Cop.far {w wr W W' : World} {l : List Nd} {j c : Nat} {A : Option Addr} (h : Cop w wr l j A c) (hB : Below wr.heap.size wr W) (ho : Only (Fp (.slice A j c)) W W') : W'.heap[w.heap.size + 1 + 1]? = some (.cells #[.slice A j c] 59 (0, 0)) := by
  obtain ⟨css, hr, hfp, _⟩ := h.own.below hB
  have b2 := box_same h.b2 hB
  exact box_only b2 ho (hr.ne_ b2 (by decide))
theorem Cop.drew {w wr : World} {l : List Nd} {j c : Nat} {A : Option Addr} (h : Cop w wr l j A c) : Cop w wr.drew l j A c := ⟨h.b1, h.b2, h.own, h.hb.drew⟩
set_option maxHeartbeats 4000000 in
theorem copied_any {ok : Nat → Prop} {A : Option Addr} {c : Nat} (l : List Nd) (w : World) (h : Rds El.nd w ok (.slice A l.length c) l) (hf : Fits22 l) :
    Calls Try.prog 67 #[.agg #[.slice A l.length c]] w (MadeT l w) := by
  have hl := hf.1
  have HF := hide hf
  have H := hide h
  clear h hf
  have i0 : Cop w (((w.alloc (.cells #[.slice A l.length c] 59)).alloc (.cells #[.slice none 0 0] 59)).alloc (.cells #[.slice none 0 0] 59)) l 0 none 0 := by
    have e1 : (w.alloc (.cells #[.slice A l.length c] 59)).heap.size = w.heap.size + 1 := by simp
    refine ⟨blk_alloc (blk_new e1.symm) _, blk_new (by simp), OwnP.nil _ _ _ _, ?_⟩
    exact (((Below.refl _ _).alloc (Nat.le_refl _) _).alloc (by simp) _).alloc (by simp; omega) _
  have I0 := hide i0
  clear i0
  go_enter Try.func67, Try.ntmps67
  go_wp2
  go_loopw [9] (fun i wr => ∃ (j : Nat) (B : Option Addr) (cb : Nat), j ≤ l.length ∧ i = .int .i64 j ∧ Hid (Cop w wr l j B cb)) (fun i _ => l.length - (intOf i).toNat)
  case atStart => exact ⟨0, none, 0, Nat.zero_le _, rfl, I0.out⟩
  case round =>
    clear I0
    obtain ⟨j, B, cb, hj, rfl, I⟩ := hrel
    by_cases hlt2 : j < l.length
    · obtain ⟨n, hn⟩ : ∃ n, l[j]? = some n := ⟨_, List.getElem?_eq_getElem hlt2⟩
      obtain ⟨ad, K, kc, hA, x0, x1, x2, hk⟩ := H.out.nd_at I.out.hb hn
      have hkl := HF.out.2 n (List.mem_of_getElem? hn)
      have HK := hide hk
      have HN := hide hn
      clear hn hk
      obtain ⟨no, np, nk⟩ := n
      simp only at x0 x1 x2 hkl
      subst hA
      have b1 := blk_cell I.out.b1 0
      have b2 := blk_cell I.out.b2 0
      have f2 := blk_frozen I.out.b2 0
      have hlt3 := blk_lt I.out.b2
      simp at b1 b2
      have HKR := hide ((HK.out.rd_ints).below I.out.hb)
      go_wp2
      have HNE : Hid (¬ Fp (.slice B j cb) wr.heap.size) := fun hq => Nat.lt_irrefl _ (I.out.own.lt _ hq)
      go_region_law (first | (go_simp; go_at_call 81; go_must (refine (iclone_any nk _ (Rd.below HKR.out (by repeat (first | exact Below.refl _ _ | refine Below.drew ?_ | refine below_drewN ?_ _ | refine Below.alloc ?_ (by simp) _))) (by omega)).mono ?_); rintro e w2 ⟨K2, k2c, rfl, hrow2, hfp2, hb2⟩; have hB2 : Below wr.heap.size wr w2 := below_then (by repeat (first | exact Below.refl _ _ | refine Below.drew ?_ | refine below_drewN ?_ _ | refine Below.alloc ?_ (by simp) _)) hb2; have bn := box_same (g := wr.heap.size) (o := .cells #[.int .u8 no, .int .i64 np, .slice K nk.length kc] 76 (0, 0)) (by repeat (first | exact blk_new rfl | exact heap_alloc_new _ _)) hb2; have bo := box_same I.out.b2 hB2; have n0 := blk_cell bn 0; have n1 := blk_cell bn 1; have n2 := blk_cell bn 2; have o0 := blk_cell bo 0; have olt := blk_lt bo; simp at n0 n1 n2 o0; have HR2 := hide hrow2; have HF2 := hide hfp2; have HB2 := hide hB2; have HBL := hide hb2; have HBN := hide bn; clear hrow2 hfp2 hb2 hB2 bn bo) | (go_must (refine step_append_nd _ rfl (.tmp 14) (.tmp 23) rfl (fun b => w.heap.size ≤ b) B j cb (l.take j) (by rfl) (by rw [List.length_take]; omega) ((I.out.own.below HB2.out).below ((Below.refl _ _).alloc (Nat.le_refl _) _)) w2.heap.size no np nk (.slice K2 nk.length k2c) (by rfl) (heap_alloc_new _ _) (HR2.out.alloc _) (fun b hb => by have h1 := HF2.out b hb; have h2 := I.out.hb.size; simp at h1; omega) (fun b hb => by have h1 := HB2.out.size; have h2 := I.out.hb.size; simp at hb; omega) (by omega) ?_); intro A3 c3 w3 hown3 honly3 hfp3; have bo3 := I.out.far (below_then HB2.out ((Below.refl _ _).alloc (Nat.le_refl _) _)) honly3; have p0 := blk_cell bo3 0; have pf := blk_frozen bo3 0; have plt := blk_lt bo3; simp at p0; have HO3 := hide hown3; have HY3 := hide honly3; clear hown3 honly3 hfp3 bo3))
      all_goals
        go_wp2
        go_roundw
        case rel => exact ⟨j + 1, A3, c3, by omega, by go_num, I.out.next (below_then HB2.out ((Below.refl _ _).alloc (Nat.le_refl _) _)) HY3.out HN.out HO3.out⟩
        case measure => simp [intOf]; omega
    · obtain rfl : j = l.length := by omega
      have b1 := blk_cell I.out.b1 0
      have b2 := blk_cell I.out.b2 0
      have f1 := blk_frozen I.out.b1 0
      have hlt3 := blk_lt I.out.b2
      simp at b1 b2
      go_wp2
      refine bodyPost_ret (v := .agg #[.slice B l.length cb]) (by simp [results, Try.results67, go_sem, b1]) rfl ⟨B, cb, rfl, ?_, ?_⟩
      · have := I.out.own.poke (i := 0) I.out.b1 (by decide) (by decide) (.slice B l.length cb)
        rwa [List.take_length] at this
      · exact I.out.hb.setCell (by show w.heap.size ≤ w.heap.size + 1; omega) _
end Go.Proofs.Ytbobjecjopmnfaa
