/- The walk of row (the statements' 22). -/
import Derived.Test.YtbobjecjopmnfaaN9
import Derived.StillTailTactics
namespace Go.Proofs.Ytbobjecjopmnfaa
open Go.RowKit
open Pt (szL sz encL enc roots encL_length roots_length enc_length shift RT)
attribute [local go_sem ↓] Go.wp_at_zero Go.wp_at_succ
theorem inf106 : (Try.prog.info? 106).map (fun i => (i.zero, i.size, i.bytes)) = some (some (.agg #[(.int .u8 0), (.int .i64 0), (.slice none 0 0)]), 3, 40) := by kernel_rfl
/-- A row of nodes (the reference's) comes back, in new memory. -/
def GetR (l : List Nd) (w : World) (e : Ending) (w' : World) : Prop := ∃ A c, e = .returned (.slice A l.length c) ∧ Rds El.nd w' (fun b => w.heap.size ≤ b) (.slice A l.length c) l ∧ Below w.heap.size w w'
section
variable {ops : Array Oper} {rest : List Oper} {o : Oper} {a : Act} {Q : Exit → Act → World → Prop}
theorem wpList_append_rn (w : World) (hgd : o.guard = none) (s x : Operand) (ho : o.op = .call { callee := .builtin .append, args := #[s, x], argTypes := #[61, 61] })
    (ok : Nat → Prop) (A : Option Addr) (n c : Nat) (xs : List Nd) (hs : a.eval s = .slice A n c) (hxn : xs.length = n) (hown : OwnP El.ndO w 106 ok (.slice A n c) xs)
    (g : Nat) (op pl : Int) (kids : List Int) (kv : Value) (hx : a.eval x = .slice (some ⟨g, 0, none⟩) 1 1) (hg : w.heap[g]? = some (.cells #[.int .u8 op, .int .i64 pl, kv] 106 (0, 0)))
    (hk : Row w 3 1 kv kids.length (ints kids)) (hkok : ∀ b, Fp kv b → ok b) (hnew : ∀ b, w.heap.size ≤ b → ok b) (hn : n ≤ 2000000)
    (h : ∀ A' c' w', OwnP El.ndO w' 106 ok (.slice A' (n + 1) c') (xs ++ [⟨op, pl, kids⟩]) → Only (Fp (.slice A n c)) w w' → (∀ b, Fp (.slice A' (n + 1) c') b → Fp (.slice A n c) b ∨ w.heap.size ≤ b) → wpList Try.prog ops Q rest (a.put o.dst (.slice A' (n + 1) c')) w') : wpList Try.prog ops Q (o :: rest) a w := by
  subst hxn
  obtain ⟨css, h1, h2, h3⟩ := hown
  have hne : ∀ b, Fp kv b → ¬ Fp (.slice A xs.length c) b := fun b hb hb' => by
    obtain ⟨cur, hc⟩ := hk.typed hb
    exact h1.ne_ hc (by decide) hb'
  have hone : ∀ x ∈ ([.int .u8 op, .int .i64 pl, kv] : List Value), x.oneCell' = true := by
    obtain ⟨K, kc, rfl, _⟩ := hk.slice_
    intro u hu
    simp at hu
    rcases hu with rfl | rfl | rfl <;> rfl
  refine wpList_append_row (P := Try.prog) w hgd s x 61 106 ho _ 3 40 Try.underlying61 inf106 rfl (by decide) (by decide) (.slice A xs.length c) xs.length css.flatten hs h1 (fun _ => True) _ 1 [.int .u8 op, .int .i64 pl, kv] hx (rd_block (cs := [.int .u8 op, .int .i64 pl, kv]) hg rfl) hone (by omega) ?_
  intro A' c' w' hrow honly hfp
  refine h A' c' w' (OwnP.grown (m := xs.length + 1) (ys := [⟨op, pl, kids⟩]) (dss := [[.int .u8 op, .int .i64 pl, kv]]) h2 h3 (.cons ⟨kv, rfl, hk, fun b hb => ⟨hkok b hb, hne b hb⟩⟩ .nil) ?_ (by simp) honly hfp hnew) honly hfp
  have e : ([[Value.int .u8 op, .int .i64 pl, kv]] : List (List Value)).flatten = [.int .u8 op, .int .i64 pl, kv] := rfl
  rw [e]
  exact hrow
end
set_option maxRecDepth 20000 in
set_option maxHeartbeats 8000000 in
theorem rowof_any {ok : Nat → Prop} {A : Option Addr} {c : Nat} (l : List Nd) (w : World) (h : Rds El.nd w ok (.slice A l.length c) l) (hf : Fits22 l) :
    Calls Try.prog 33 #[.agg #[.slice A l.length c]] w (GetR l w) := by
  have hl := hf.1
  have HF := hide hf
  have H := hide h
  obtain ⟨W0, hW0⟩ : ∃ W0, W0 = w.alloc (.cells #[.slice A l.length c] 59 (0, 0)) := ⟨_, rfl⟩
  have hz : W0.heap.size = w.heap.size + 1 := by rw [hW0]; simp
  have hb0 : Below w.heap.size w W0 := by rw [hW0]; exact (Below.refl _ _).alloc (Nat.le_refl _) _
  have hx0 : W0.heap[w.heap.size]? = some (.cells #[.slice A l.length c] 59 (0, 0)) := by rw [hW0]; exact heap_alloc_new _ _
  have HZ := hide hz
  have HB0 := hide hb0
  have HX0 := hide hx0
  have HW0 := hide hW0
  clear h hf hz hb0 hx0 hW0
  go_enter Try.func33, Try.ntmps33
  go_wp2
  go_loopw [3, 4] (fun ov iv wr => ∃ (j : Nat) (OB : Option Addr) (oc : Nat), j ≤ l.length ∧ iv = .int .i64 j ∧ ov = .slice OB j oc ∧ Hid (OwnP El.ndO wr 106 (fun b => w.heap.size < b) (.slice OB j oc) (l.take j)) ∧ Hid (Below W0.heap.size W0 wr)) (fun _ i _ => l.length - (intOf i).toNat)
  case atStart => exact ⟨0, none, 0, Nat.zero_le _, rfl, rfl, OwnP.nil _ _ _ _, by rw [HW0.out]; exact Below.refl _ _⟩
  case round =>
    obtain ⟨j, OB, oc, hj, rfl, rfl, O, HB⟩ := hrel
    have HBW := hide (below_then HB0.out HB.out)
    have BX := hide (box_same HX0.out HB.out)
    have b0 := blk_cell BX.out 0
    have bl := blk_lt BX.out
    simp at b0
    by_cases hlt2 : j < l.length
    · obtain ⟨n, hn⟩ : ∃ n, l[j]? = some n := ⟨_, List.getElem?_eq_getElem hlt2⟩
      obtain ⟨ad, K, kc, hA, x0, x1, x2, hk⟩ := H.out.nd_at HBW.out hn
      have hkl := HF.out.2 n (List.mem_of_getElem? hn)
      have HK := hide (hk.rd_ints.below HBW.out)
      have HN := hide hn
      obtain ⟨no, np, nk⟩ := n
      simp only at x0 x1 x2 hkl HK
      subst hA
      clear hn hk
      go_wp2
      go_region_held3 (fun w' => w'.cell? ⟨w.heap.size, 0, none⟩ = some (.slice (some ad) l.length c) ∧ w'.cell? (ad.add (j * 3)) = some (.int .u8 no) ∧ w'.cell? ⟨(ad.add (j * 3)).block, (ad.add (j * 3)).off + 1, none⟩ = some (.int .i64 np) ∧ w'.cell? ⟨(ad.add (j * 3)).block, (ad.add (j * 3)).off + 2, none⟩ = some (.slice K nk.length kc)) (first | go_keep | assumption) (fail)
      go_wp2
      obtain ⟨wq, hwq⟩ : ∃ wq, wq = (wr.alloc (.cells #[.int .u8 no, .int .i64 np, .slice none 0 0] 106 (0, 0))).drew := ⟨_, rfl⟩
      have hbq : Below wr.heap.size wr wq := by rw [hwq]; exact ((Below.refl _ _).alloc (Nat.le_refl _) _).drew
      have hbn : wq.heap[wr.heap.size]? = some (.cells #[.int .u8 no, .int .i64 np, .slice none 0 0] 106 (0, 0)) := by rw [hwq]; exact heap_alloc_new _ _
      have q2 := blk_cell hbn 2
      have q0 := blk_cell (box_same BX.out hbq) 0
      simp at q0 q2
      have e2 := (hbq.cell (p := ⟨(ad.add (j * 3)).block, (ad.add (j * 3)).off + 2, none⟩) (World.block_lt_of_cell? wr _ x2)).trans x2
      rw [← hwq]
      have HKQ := hide (HK.out.below hbq)
      have HBQ := hide hbq
      have HBN := hide hbn
      clear hwq hbq hbn x0 x1 x2 b0
      go_still_tail 8, (by kernel_rfl)
      change wpList _ _ _ _ _ wq.drew
      go_wp2_with (first | (at_builtin; refine wpList_append_row _ rfl (.tmp 27) (.tmp 33) 36 3 rfl _ 1 8 Try.underlying36 inf3 rfl (by decide) (by decide) (.slice none 0 0) 0 [] rfl (Row.nil _ _ _) ok (.slice K nk.length kc) nk.length (ints nk) rfl (HKQ.out.below (by repeat (first | exact Below.refl _ _ | refine Below.drew ?_ | refine below_drewN ?_ _ | refine Below.alloc ?_ (by simp) _))) ints_one (by omega) ?_; intro B' cb' w3 hrow3 honly3 hfp3; rw [Nat.zero_add, List.nil_append] at hrow3; rw [Nat.zero_add] at hfp3; have bn3 := box_only (box_same HBN.out (by repeat (first | exact Below.refl _ _ | refine Below.drew ?_ | refine below_drewN ?_ _ | refine Below.alloc ?_ (by simp) _))) honly3 Fp_none; have c0 := blk_cell bn3 0; have c1 := blk_cell bn3 1; have c2 := blk_cell bn3 2; have cf := blk_frozen bn3 2; have cl := blk_lt bn3; simp at c0 c1 c2; have HR3 := hide hrow3; have HO3 := hide honly3; have HF3 := hide hfp3; have BN3 := hide bn3; have hB3 := HBQ.out.drew.trans (honly3.below (fun b hb => (Fp_none hb).elim) HBQ.out.size); have HS3 := hide hB3.size; have HB5 := hide (fun (u : Value) (X : Obj) => (hB3.setCell (p := ⟨wr.heap.size, 2, none⟩) (Nat.le_refl _) u).alloc (by simpa using hB3.size) X); have HRW := hide (fun (u : Value) (X : Obj) => (hrow3.setCell (p := ⟨wr.heap.size, 2, none⟩) (hrow3.ne_ bn3 (by decide)) u).alloc X); have HKO := hide (fun b (hb : Fp (.slice B' nk.length cb') b) => (show w.heap.size < b from by rcases hfp3 b hb with h | h; exact (Fp_none h).elim; exact Nat.lt_of_lt_of_le bl (Nat.le_trans HBQ.out.size h))); clear hrow3 honly3 hfp3 bn3 hB3) | (at_builtin; refine wpList_append_rn _ rfl (.tmp 36) (.tmp 38) rfl (fun b => w.heap.size < b) OB j oc (l.take j) rfl (by rw [List.length_take]; omega) (O.out.below (HB5.out _ _)) _ no np nk (.slice B' nk.length cb') rfl (blk_new (by simp)) (HRW.out _ _) HKO.out (fun b hb => Nat.lt_of_lt_of_le bl (Nat.le_trans (HB5.out _ _).size hb)) (by omega) ?_; intro A4 c4 w4 hown4 honly4 hfp4; have HO4 := hide hown4; have HB6 := hide ((below_then HB.out (HB5.out _ _)).trans (honly4.below (fun b hb => by have h1 := O.out.fp b hb; have h2 := HZ.out; omega) (Nat.le_trans HB.out.size (HB5.out _ _).size))); clear hown4 honly4 hfp4))
      go_roundw
      case rel =>
        refine ⟨j + 1, A4, c4, by omega, by go_num, rfl, ?_, HB6.out⟩
        have h1 := HO4.out
        have h2 := HN.out
        obtain ⟨h3, h4⟩ := List.getElem?_eq_some_iff.1 h2
        rw [List.take_succ_eq_append_getElem h3, h4]
        exact h1
      case measure => simp [intOf]; omega
    · obtain rfl : j = l.length := by omega
      rw [List.take_length] at O
      go_wp2
      go_ret
      exact ⟨OB, oc, rfl, (O.out.rds.to_nd).mono (fun b hb _ => Nat.le_of_lt hb), HBW.out⟩
end Go.Proofs.Ytbobjecjopmnfaa
