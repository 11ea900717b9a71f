/- The walks of same and row (the statements'). -/
import Derived.Test.YtbobjecjopmnfaaF1
namespace Go.Proofs.Ytbobjecjopmnfaa
open Go.RowKit
theorem Below.cell_ {w w1 : World} (h : Below w.heap.size w w1) {a : Addr} {v : Value} (hc : w.cell? a = some v) : w1.cell? a = some v := (h.cell (World.block_lt_of_cell? w a hc)).trans hc
theorem same_keep {w wr w6 : World} {ad bd : Addr} {j : Nat} {k : Int} {nm : ByteArray} {ar pl : Int} (HB : Below w.heap.size w wr) (hb : Below wr.drew.heap.size wr.drew w6) (x0 : wr.cell? (ad.add (j * 4)) = some (.int .u8 k)) (x1 : wr.cell? ⟨(ad.add (j * 4)).block, (ad.add (j * 4)).off + 1, none⟩ = some (.string nm)) (x2 : wr.cell? ⟨(ad.add (j * 4)).block, (ad.add (j * 4)).off + 2, none⟩ = some (.int .i64 ar)) (x3 : wr.cell? ⟨(ad.add (j * 4)).block, (ad.add (j * 4)).off + 3, none⟩ = some (.int .i64 pl))
    (y0 : wr.cell? (bd.add (j * 4)) = some (.int .u8 k)) (y1 : wr.cell? ⟨(bd.add (j * 4)).block, (bd.add (j * 4)).off + 1, none⟩ = some (.string nm)) (y2 : wr.cell? ⟨(bd.add (j * 4)).block, (bd.add (j * 4)).off + 2, none⟩ = some (.int .i64 ar)) (y3 : wr.cell? ⟨(bd.add (j * 4)).block, (bd.add (j * 4)).off + 3, none⟩ = some (.int .i64 pl)) :
    Hid (Below w.heap.size w w6) ∧ Hid ((w6.cell? (ad.add (j * 4)) = some (.int .u8 k) ∧ w6.cell? ⟨(ad.add (j * 4)).block, (ad.add (j * 4)).off + 1, none⟩ = some (.string nm) ∧ w6.cell? ⟨(ad.add (j * 4)).block, (ad.add (j * 4)).off + 2, none⟩ = some (.int .i64 ar) ∧ w6.cell? ⟨(ad.add (j * 4)).block, (ad.add (j * 4)).off + 3, none⟩ = some (.int .i64 pl)) ∧ (w6.cell? (bd.add (j * 4)) = some (.int .u8 k) ∧ w6.cell? ⟨(bd.add (j * 4)).block, (bd.add (j * 4)).off + 1, none⟩ = some (.string nm) ∧ w6.cell? ⟨(bd.add (j * 4)).block, (bd.add (j * 4)).off + 2, none⟩ = some (.int .i64 ar) ∧ w6.cell? ⟨(bd.add (j * 4)).block, (bd.add (j * 4)).off + 3, none⟩ = some (.int .i64 pl))) := by
  exact ⟨below_then HB.drew hb, ⟨Below.cell_ (w := wr.drew) hb x0, Below.cell_ (w := wr.drew) hb x1, Below.cell_ (w := wr.drew) hb x2, Below.cell_ (w := wr.drew) hb x3⟩, ⟨Below.cell_ (w := wr.drew) hb y0, Below.cell_ (w := wr.drew) hb y1, Below.cell_ (w := wr.drew) hb y2, Below.cell_ (w := wr.drew) hb y3⟩⟩
section
attribute [local go_sem high] eqA94
set_option maxHeartbeats 2000000 in
theorem same_any {ok ok' : Nat → Prop} {A B : Option Addr} {ca cb : Nat} (l : List Ev) (hn : l.length ≤ 1000) (w : World) (h : Rd w ok 4 (.slice A l.length ca) l.length (cells l)) (h' : Rd w ok' 4 (.slice B l.length cb) l.length (cells l)) :
    Calls Try.prog 30 #[.slice A l.length ca, .slice B l.length cb] w fun e w' => e = .returned (.bool true) ∧ Below w.heap.size w w' := by
  have H := hide h
  have H' := hide h'
  clear h h'
  go_enter Try.func30, Try.ntmps30
  go_wp2
  go_loopw [5] (fun i wr => ∃ j : Nat, j ≤ l.length ∧ i = .int .i64 j ∧ Hid (Below w.heap.size w wr)) (fun i _ => l.length - (intOf i).toNat)
  case atStart => exact ⟨0, Nat.zero_le _, rfl, Below.refl _ _⟩
  case round =>
    obtain ⟨j, hj, rfl, HB⟩ := hrel
    by_cases hlt2 : j < l.length
    · obtain ⟨ad, hA, hltd, x0, x1, x2, x3⟩ := (H.out.below HB.out).get j hlt2 (by omega)
      obtain ⟨bd, hB, hltb, y0, y1, y2, y3⟩ := (H'.out.below HB.out).get j hlt2 (by omega)
      obtain ⟨x, hx⟩ : ∃ x, x = l[j] := ⟨_, rfl⟩
      rw [← hx] at x0 x1 x2 x3 y0 y1 y2 y3
      subst hA; subst hB
      clear hx
      obtain ⟨k, nm, ar, pl⟩ := x
      simp only at x0 x1 x2 x3 y0 y1 y2 y3
      go_wp2
      go_region_held3 (fun w' => (w'.cell? (ad.add (j * 4)) = some (.int .u8 k) ∧ w'.cell? ⟨(ad.add (j * 4)).block, (ad.add (j * 4)).off + 1, none⟩ = some (.string nm) ∧ w'.cell? ⟨(ad.add (j * 4)).block, (ad.add (j * 4)).off + 2, none⟩ = some (.int .i64 ar) ∧ w'.cell? ⟨(ad.add (j * 4)).block, (ad.add (j * 4)).off + 3, none⟩ = some (.int .i64 pl)) ∧ (w'.cell? (bd.add (j * 4)) = some (.int .u8 k) ∧ w'.cell? ⟨(bd.add (j * 4)).block, (bd.add (j * 4)).off + 1, none⟩ = some (.string nm) ∧ w'.cell? ⟨(bd.add (j * 4)).block, (bd.add (j * 4)).off + 2, none⟩ = some (.int .i64 ar) ∧ w'.cell? ⟨(bd.add (j * 4)).block, (bd.add (j * 4)).off + 3, none⟩ = some (.int .i64 pl))) (first | exact HS.out | go_keep | assumption)
        (first | (go_at_call 51; refine (ref_any k nm ar pl _).mono ?_; rintro e w6 ⟨rfl, hb6⟩; obtain ⟨HB6, HS⟩ := same_keep HB.out hb6 x0 x1 x2 x3 y0 y1 y2 y3; clear hb6))
      all_goals
        go_wp2
        go_roundw
        case rel => exact ⟨j + 1, by omega, by go_num, HB6.out⟩
        case measure => simp [intOf]; omega
    · go_wp2
      go_ret
      exact ⟨rfl, HB.out⟩
end
set_option maxHeartbeats 2000000 in
theorem row_any {ok : Nat → Prop} {A : Option Addr} {c : Nat} (l : List Ev) (w : World) (h : Rd w ok 4 (.slice A l.length c) l.length (cells l)) (hn : l.length ≤ 1000) :
    Calls Try.prog 27 #[.slice A l.length c] w fun e w' => ∃ A' c', e = .returned (.slice A' l.length c') ∧ Row w' 94 4 (.slice A' l.length c') l.length (cells l) ∧ (∀ b, Fp (.slice A' l.length c') b → w.heap.size ≤ b) ∧ Below w.heap.size w w' := by
  have H := hide h
  clear h
  go_enter Try.func27, Try.ntmps27
  go_wp2
  go_loopw [3, 4] (fun v i wr => ∃ (j : Nat) (A' : Option Addr) (c' : Nat), j ≤ l.length ∧ i = .int .i64 j ∧ v = .slice A' j c' ∧ Hid (Row wr 94 4 (.slice A' j c') j (cells (l.take j))) ∧ Hid (∀ b, Fp (.slice A' j c') b → w.heap.size ≤ b) ∧ Hid (Below w.heap.size w wr)) (fun _ i _ => l.length - (intOf i).toNat)
  case atStart => exact ⟨0, none, 0, Nat.zero_le _, rfl, rfl, Row.nil _ _ _, fun b h => (Fp_none h).elim, Below.refl _ _⟩
  case round =>
    obtain ⟨j, A1, c1, hj, rfl, rfl, HR, HF, HB⟩ := hrel
    by_cases hlt2 : j < l.length
    · obtain ⟨x, hx⟩ : ∃ x, x = l[j] := ⟨_, rfl⟩
      obtain ⟨ad, hA, hltd, x0, x1, x2, x3⟩ := (H.out.below HB.out).get j hlt2 (by omega)
      rw [← hx] at x0 x1 x2 x3
      subst hA
      have hE : l.take (j + 1) = l.take j ++ [x] := by rw [List.take_succ_eq_append_getElem hlt2, hx]
      have HE := hide hE
      clear hx hE
      go_wp2_with (first | (go_at_call 51; refine (ref_any x.k x.nm x.ar x.pl _).mono ?_; rintro e w6 ⟨rfl, hb6⟩; have HB6 := hide (below_then HB.out hb6); have HR6 := hide (HR.out.below hb6); clear hb6) | (at_builtin; refine wpList_append_row _ rfl (.tmp 11) (.tmp 17) 48 94 rfl _ 4 40 Try.underlying48 info94 rfl (by decide) (by decide) (.slice A1 j c1) j (cells (l.take j)) rfl (HR6.out.alloc _) (fun _ => True) _ 1 (cells [x]) rfl (rd_one (t := 94) (blk_new (by simp))) (cells_one _) (by omega) ?_; intro A2 a2 w2 hrow2 honly2 hfp2; rw [← cells_append, ← HE.out] at hrow2; obtain ⟨hb2, hf2⟩ := own_step (below_then HB6.out ((Below.refl _ _).alloc (Nat.le_refl _) _)) HF.out honly2 hfp2; have HR2 := hide hrow2; have HF2 := hide hf2; have HB2 := hide hb2; clear hrow2 honly2 hfp2 hb2 hf2))
      go_roundw
      case rel => exact ⟨j + 1, A2, a2, by omega, by go_num, rfl, HR2.out, HF2.out, HB2.out⟩
      case measure => simp [intOf]; omega
    · have hjl : j = l.length := by omega
      have hE : l.take j = l := by rw [hjl, List.take_length]
      have HE := hide hE
      have HJ := hide hjl
      clear hjl hE
      go_wp2
      go_ret
      rw [← HJ.out]
      have hr := HR.out
      rw [HE.out] at hr
      exact ⟨A1, c1, rfl, hr, HF.out, HB.out⟩
end Go.Proofs.Ytbobjecjopmnfaa
