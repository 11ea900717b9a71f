/- The walks of without and Gone (the reference's). -/
import Derived.Test.YtbobjecjopmnfaaE3
namespace Go.Proofs.Ytbobjecjopmnfaa
open Go.RowKit
/-- What is read at k, out of a reading. -/
theorem Rd.get {w : World} {ok : Nat → Prop} {l : List Ev} {A : Option Addr} {c n : Nat} (h : Rd w ok 4 (.slice A n c) n (cells l)) (k : Nat) (hk : k < l.length) (hn : 0 < n) :
    ∃ ad, A = some ad ∧ ad.block < w.heap.size ∧ w.cell? (ad.add (k * 4)) = some (.int .u8 l[k].k) ∧ w.cell? ⟨(ad.add (k * 4)).block, (ad.add (k * 4)).off + 1, none⟩ = some (.string l[k].nm) ∧ w.cell? ⟨(ad.add (k * 4)).block, (ad.add (k * 4)).off + 2, none⟩ = some (.int .i64 l[k].ar) ∧ w.cell? ⟨(ad.add (k * 4)).block, (ad.add (k * 4)).off + 3, none⟩ = some (.int .i64 l[k].pl) := by
  obtain ⟨_, A', c', he, _, hr⟩ := h
  injection he with e1 _ e3
  subst e1; subst e3
  obtain ⟨ad, rfl, _, hcells⟩ := hr hn
  have key : ∀ j u, j < 4 → (l[k].cs)[j]? = some u → w.cell? (ad.add (k * 4 + j)) = some u := fun j u hj hu => hcells (k * 4 + j) u (by rw [cells_get l k j hk hj]; exact hu)
  have k0 := key 0 _ (by omega) rfl
  have hlt := World.block_lt_of_cell? w _ k0
  rw [add_block] at hlt
  have hf : ∀ j, 0 < j → ad.add (k * 4 + j) = ⟨(ad.add (k * 4)).block, (ad.add (k * 4)).off + j, none⟩ := fun j hj => by
    unfold Addr.add
    by_cases hm : k * 4 = 0
    · simp [hm, Nat.ne_of_gt hj]
    · simp [hm, Nat.add_assoc]
  exact ⟨ad, rfl, hlt, k0, by rw [← hf 1 (by omega)]; exact key 1 _ (by omega) rfl, by rw [← hf 2 (by omega)]; exact key 2 _ (by omega) rfl, by rw [← hf 3 (by omega)]; exact key 3 _ (by omega) rfl⟩
theorem keeps_step {k pl : Int} {l : List Ev} {j : Nat} {x : Ev} {hj : j < l.length} (hx : x = l[j]) : (l.take (j + 1)).filter (M.stays k pl) = (l.take j).filter (M.stays k pl) ++ (if M.stays k pl x = true then [x] else []) := by
  rw [List.take_succ_eq_append_getElem hj, List.filter_append, ← hx]
  by_cases h : M.stays k pl x = true <;> simp [h]
set_option maxHeartbeats 2000000 in
theorem without_any {ok : Nat → Prop} (k pl : Int) {A : Option Addr} {c : Nat} (l : List Ev) (w : World) (h : Rd w ok 4 (.slice A l.length c) l.length (cells l)) (hn : l.length ≤ 1000) :
    Calls Try.prog 77 #[.slice A l.length c, .int .u8 k, .int .i64 pl] w fun e w' => ∃ A' c', e = .returned (.slice A' (l.filter (M.stays k pl)).length c') ∧ Row w' 94 4 (.slice A' (l.filter (M.stays k pl)).length c') (l.filter (M.stays k pl)).length (cells (l.filter (M.stays k pl))) ∧ (∀ b, Fp (.slice A' (l.filter (M.stays k pl)).length c') b → w.heap.size ≤ b) ∧ Below w.heap.size w w' := by
  have H := hide h
  clear h
  go_enter Try.func77, Try.ntmps77
  go_wp2
  go_loopw [7, 8] (fun v i wr => ∃ (j : Nat) (A' : Option Addr) (c' : Nat), j ≤ l.length ∧ i = .int .i64 j ∧ v = .slice A' ((l.take j).filter (M.stays k pl)).length c' ∧ Hid (Row wr 94 4 (.slice A' ((l.take j).filter (M.stays k pl)).length c') ((l.take j).filter (M.stays k pl)).length (cells ((l.take j).filter (M.stays k pl)))) ∧ Hid (∀ b, Fp (.slice A' ((l.take j).filter (M.stays k pl)).length c') b → w.heap.size ≤ b) ∧ Hid (Below w.heap.size w wr)) (fun _ i _ => l.length - (intOf i).toNat)
  case atStart => exact ⟨0, none, 0, Nat.zero_le _, rfl, rfl, Row.nil _ _ _, fun b h => (Fp_none h).elim, Below.refl _ _⟩
  case round =>
    obtain ⟨j, A1, c1, hj, rfl, rfl, HR, HF, HB⟩ := hrel
    by_cases hlt2 : j < l.length
    · obtain ⟨x, hx⟩ : ∃ x, x = l[j] := ⟨_, rfl⟩
      obtain ⟨ad, hA, hltd, x0, x1, x2, x3⟩ := (H.out.below HB.out).get j hlt2 (by omega)
      rw [← hx] at x0 x1 x2 x3
      subst hA
      have HX := hide hx
      clear hx
      obtain ⟨L, hL⟩ : ∃ L, L = (l.take j).filter (M.stays k pl) := ⟨_, rfl⟩
      have hLl : L.length ≤ j := by rw [hL]; exact Nat.le_trans (List.length_filter_le _ _) (by rw [List.length_take]; omega)
      have HLL := hide hL
      rw [← hL] at HR HF
      simp only [← hL]
      clear hL
      have E := keeps_step (k := k) (pl := pl) HX.out
      rw [← HLL.out] at E
      have hcase : ((x.k != k) = false ∧ (x.pl != pl) = false) ∨ (x.k != k) = true ∨ ((x.k != k) = false ∧ (x.pl != pl) = true) := by
        cases (x.k != k) <;> cases (x.pl != pl) <;> simp
      rcases hcase with ⟨q1, q2⟩ | q1 | ⟨q1, q2⟩
      · have hs : M.stays k pl x = false := by simp at q1 q2; simp [M.stays, q1, q2]
        rw [hs, if_neg (by simp), List.append_nil] at E
        have HE := hide E
        clear E hs
        go_wp2
        go_roundw
        case rel => exact ⟨j + 1, A1, c1, by omega, by go_num, by rw [HE.out], by rw [HE.out]; exact HR.out, by rw [HE.out]; exact HF.out, HB.out⟩
        case measure => simp [intOf]; omega
      · have hs : M.stays k pl x = true := by simp at q1; simp [M.stays, q1]
        rw [if_pos hs] at E
        have HE := hide E
        have HEl : Hid (((l.take (j + 1)).filter (M.stays k pl)).length = L.length + 1) := (by rw [E]; simp : ((l.take (j + 1)).filter (M.stays k pl)).length = L.length + 1)
        clear E hs
        go_wp2_with (at_builtin; refine wpList_append_row _ rfl (.tmp 31) (.tmp 36) 48 94 rfl _ 4 40 Try.underlying48 info94 rfl (by decide) (by decide) (.slice A1 L.length c1) L.length (cells L) rfl (HR.out.alloc _) (fun _ => True) _ 1 (cells [x]) rfl (rd_one (t := 94) (blk_new (by simp))) (cells_one _) (by omega) ?_; intro A2 a2 w2 hrow2 honly2 hfp2; rw [← cells_append] at hrow2; obtain ⟨hb2, hf2⟩ := own_step (below_then HB.out ((Below.refl _ _).alloc (Nat.le_refl _) _)) HF.out honly2 hfp2; have HR2 := hide hrow2; have HF2 := hide hf2; have HB2 := hide hb2; clear hrow2 honly2 hfp2 hb2 hf2)
        go_roundw
        case rel => exact ⟨j + 1, A2, a2, by omega, by go_num, by rw [HEl.out], by rw [HEl.out, HE.out]; exact HR2.out, by rw [HEl.out]; exact HF2.out, HB2.out⟩
        case measure => simp [intOf]; omega
      · have hs : M.stays k pl x = true := by simp at q1 q2; simp [M.stays, q1, q2]
        rw [if_pos hs] at E
        have HE := hide E
        have HEl : Hid (((l.take (j + 1)).filter (M.stays k pl)).length = L.length + 1) := (by rw [E]; simp : ((l.take (j + 1)).filter (M.stays k pl)).length = L.length + 1)
        clear E hs
        go_wp2_with (at_builtin; refine wpList_append_row _ rfl (.tmp 31) (.tmp 36) 48 94 rfl _ 4 40 Try.underlying48 info94 rfl (by decide) (by decide) (.slice A1 L.length c1) L.length (cells L) rfl (HR.out.alloc _) (fun _ => True) _ 1 (cells [x]) rfl (rd_one (t := 94) (blk_new (by simp))) (cells_one _) (by omega) ?_; intro A2 a2 w2 hrow2 honly2 hfp2; rw [← cells_append] at hrow2; obtain ⟨hb2, hf2⟩ := own_step (below_then HB.out ((Below.refl _ _).alloc (Nat.le_refl _) _)) HF.out honly2 hfp2; have HR2 := hide hrow2; have HF2 := hide hf2; have HB2 := hide hb2; clear hrow2 honly2 hfp2 hb2 hf2)
        go_roundw
        case rel => exact ⟨j + 1, A2, a2, by omega, by go_num, by rw [HEl.out], by rw [HEl.out, HE.out]; exact HR2.out, by rw [HEl.out]; exact HF2.out, HB2.out⟩
        case measure => simp [intOf]; omega
    · have hjl : j = l.length := by omega
      have hE : (l.take j).filter (M.stays k pl) = l.filter (M.stays k pl) := by rw [hjl, List.take_length]
      have HE := hide hE
      clear hjl hE
      go_wp2
      go_ret
      rw [← HE.out]
      exact ⟨A1, c1, rfl, HR.out, HF.out, HB.out⟩
end Go.Proofs.Ytbobjecjopmnfaa
