/- The walk of Gone (the reference's). -/
import Derived.Test.YtbobjecjopmnfaaE4
namespace Go.Proofs.Ytbobjecjopmnfaa
open Go.RowKit
/-- What lies there of a reference's pool. -/
structure RLies (w : World) (ok : Nat → Prop) (g : Nat) (m : M) (A B C : Option Addr) (a b c : Nat) : Prop where
  hb : w.heap[g]? = some (.cells #[.int .i64 m.room, .slice A m.D.length a, .slice B m.R.length b, .slice C m.F.length c] 92 (0, 0))
  h0 : Row w 94 4 (.slice A m.D.length a) m.D.length (cells m.D)
  h1 : Row w 94 4 (.slice B m.R.length b) m.R.length (cells m.R)
  h2 : Row w 94 4 (.slice C m.F.length c) m.F.length (cells m.F)
  a01 : Apart (.slice A m.D.length a) (.slice B m.R.length b)
  a02 : Apart (.slice A m.D.length a) (.slice C m.F.length c)
  a12 : Apart (.slice B m.R.length b) (.slice C m.F.length c)
  hok : ∀ q, (q = g ∨ Fp (.slice A m.D.length a) q ∨ Fp (.slice B m.R.length b) q ∨ Fp (.slice C m.F.length c) q) → ok q
  hlt : ∀ q, ok q → q < w.heap.size
  m_ok : m.Ok
theorem At.rlies {w : World} {ok : Nat → Prop} {g : Nat} {m : M} (h : At w 92 94 ok g m) : ∃ A B C a b c, RLies w ok g m A B C a b c := by
  obtain ⟨v0, v1, v2, hb, h0, h1, h2, a01, a02, a12, hok, hltok, hOk⟩ := h
  obtain ⟨A, a, rfl, _⟩ := h0.slice_
  obtain ⟨B, b, rfl, _⟩ := h1.slice_
  obtain ⟨C, c, rfl, _⟩ := h2.slice_
  exact ⟨A, B, C, a, b, c, hb, h0, h1, h2, a01, a02, a12, hok, hltok, hOk⟩
theorem At.rlies_of {w : World} {ok : Nat → Prop} {g : Nat} {m : M} {A B C : Option Addr} {a b c : Nat} (h : At w 92 94 ok g m) (hb : w.heap[g]? = some (.cells #[.int .i64 m.room, .slice A m.D.length a, .slice B m.R.length b, .slice C m.F.length c] 92 (0, 0))) : RLies w ok g m A B C a b c := by
  obtain ⟨A', B', C', a', b', c', L⟩ := h.rlies
  have hb' := L.hb
  rw [hb] at hb'
  injection hb' with hb'
  injection hb' with hb' _
  simp only [Array.mk.injEq, List.cons.injEq, Value.slice.injEq, true_and, and_true] at hb'
  obtain ⟨⟨rfl, rfl⟩, ⟨rfl, rfl⟩, ⟨rfl, rfl⟩⟩ := hb'
  exact L
theorem rgone_eq {m : M} (k pl : Int) (hk : k = 1 ∨ k = 3) : (m.goneD k pl).goneR k pl = (m.gone k pl).1 ∧ ((m.len : Int) - ((m.goneD k pl).goneR k pl).len) = (m.gone k pl).2 := by
  have hc : ¬ (k ≠ 1 ∧ k ≠ 3) := by omega
  simp only [M.gone, if_neg hc, M.goneD, M.goneR, and_self]
theorem rgone_behind0 {w w1 w2 : World} {ok : Nat → Prop} {g : Nat} {m : M} {A B C A' : Option Addr} {a b c c' : Nat} {k pl : Int} (L : RLies w ok g m A B C a b c) (hB1 : Below w.heap.size w w1) (hb : Below w1.heap.size w1 w2)
    (hrow : Row w2 94 4 (.slice A' (m.D.filter (M.stays k pl)).length c') (m.D.filter (M.stays k pl)).length (cells (m.D.filter (M.stays k pl)))) (hf : ∀ b, Fp (.slice A' (m.D.filter (M.stays k pl)).length c') b → w1.heap.size ≤ b) :
    w2.cell? ⟨g, 1, none⟩ = some (.slice A m.D.length a) ∧ w2.cell? ⟨g, 2, none⟩ = some (.slice B m.R.length b) ∧ w2.heap[g]? = some (.cells #[.int .i64 m.room, .slice A m.D.length a, .slice B m.R.length b, .slice C m.F.length c] 92 (0, 0)) ∧ w2.frozen? ⟨g, 1, none⟩ = false ∧ g < w2.heap.size ∧ Hid (Turned 92 94 ok g (m.goneD k pl) w (w2.setCell ⟨g, 1, none⟩ (.slice A' (m.D.filter (M.stays k pl)).length c'))) := by
  have hB2 := below_then hB1 hb
  have hb2 := (hB2.block g (blk_lt L.hb)).trans L.hb
  refine ⟨blk_cell hb2 1, blk_cell hb2 2, hb2, blk_frozen hb2 1, blk_lt hb2, ?_⟩
  exact At.row0 L.hb L.h0 L.h1 L.h2 L.a01 L.a02 L.a12 L.hok L.hlt (by decide) hB1 (Only.of_below hb _) hrow (fun q h => .inr (hf q h)) (goneD_ok L.m_ok k pl)
theorem rgone_behind1 {w w1 w2 : World} {ok : Nat → Prop} {g : Nat} {m : M} {A B C A' : Option Addr} {a b c c' : Nat} {k pl : Int} (L : RLies w ok g m A B C a b c) (hB1 : Below w.heap.size w w1) (hb : Below w1.heap.size w1 w2)
    (hrow : Row w2 94 4 (.slice A' (m.R.filter (M.stays k pl)).length c') (m.R.filter (M.stays k pl)).length (cells (m.R.filter (M.stays k pl)))) (hf : ∀ b, Fp (.slice A' (m.R.filter (M.stays k pl)).length c') b → w1.heap.size ≤ b) :
    w2.cell? ⟨g, 2, none⟩ = some (.slice B m.R.length b) ∧ w2.frozen? ⟨g, 2, none⟩ = false ∧ g < w2.heap.size ∧ Hid (Turned 92 94 ok g (m.goneR k pl) w (w2.setCell ⟨g, 2, none⟩ (.slice A' (m.R.filter (M.stays k pl)).length c'))) := by
  have hB2 := below_then hB1 hb
  have hb2 := (hB2.block g (blk_lt L.hb)).trans L.hb
  refine ⟨blk_cell hb2 2, blk_frozen hb2 2, blk_lt hb2, ?_⟩
  exact At.row1 L.hb L.h0 L.h1 L.h2 L.a01 L.a02 L.a12 L.hok L.hlt (by decide) hB1 (Only.of_below hb _) hrow (fun q h => .inr (hf q h)) (goneR_ok L.m_ok k pl)

set_option maxHeartbeats 2000000 in
theorem rgone_any {g : Nat} {m : M} {ok : Nat → Prop} (k pl : Int) (w : World) (h : At w 92 94 ok g m) (hk : k = 1 ∨ k = 3) :
    Calls Try.prog 54 #[.pointer (some ⟨g, 0, none⟩), .int .u8 k, .int .i64 pl] w fun e w' => e = .returned (.int .i64 (m.gone k pl).2) ∧ Turned 92 94 ok g (m.gone k pl).1 w w' := by
  have hs := h.small
  have hs5 : m.len ≤ 256 := by simp only [M.len]; exact hs
  have HE := hide (rgone_eq (m := m) k pl hk)
  have HA := hide h
  have hk1 : ((k != 1) = false) ∨ ((k != 1) = true ∧ (k != 3) = false) := by
    rcases hk with rfl | rfl
    · left; rfl
    · right; exact ⟨rfl, rfl⟩
  clear h hk
  rcases hk1 with hk1 | ⟨hk1, hk3⟩
  · go_enter Try.func54, Try.ntmps54
    go_wp2_with fail
    refine (rlen_any _ HA.out).mono ?_
    rintro e w1 ⟨rfl, n, hw1⟩
    have HB1 : Hid (Below w.heap.size w w1) := (by rw [hw1]; exact below_drewN (Below.refl _ _) _ : Below w.heap.size w w1)
    clear hw1
    have hA1 := HA.out.below HB1.out
    obtain ⟨A, B, C, a, b, c, L⟩ := hA1.rlies
    have c1 := blk_cell L.hb 1
    simp at c1
    have hlt1 := blk_lt L.hb
    have HL := hide L
    have HA1 := hide hA1
    clear L hA1
    go_wp2_with fail
    refine (without_any (ok := fun _ => True) k pl m.D _ (HL.out.h0.rd (fun _ _ => trivial)) (by omega)).mono ?_
    rintro e w2 ⟨A2, a2, rfl, hrow, hf, hb2⟩
    obtain ⟨d1, d2, hg2, f1, hlt2, HT⟩ := rgone_behind0 HL.out (Below.refl _ _) hb2 hrow hf
    have HG2 := hide hg2
    clear hrow hf hb2 c1 hg2
    go_wp2_with fail
    obtain ⟨ok3, at3, on3, fp3⟩ := HT.out.at_
    have L3 := at3.rlies_of (blk_set HG2.out 1 _)
    have HL3 := hide L3
    have HON := hide on3
    have HFP := hide fp3
    clear L3 at3 on3 fp3 HT d1 d2 f1
    refine (without_any (ok := fun _ => True) k pl m.R _ (HL3.out.h1.rd (fun _ _ => trivial)) (by omega)).mono ?_
    rintro e w4 ⟨A4, a4, rfl, hrow, hf, hb4⟩
    obtain ⟨d2, f2, hlt4, HT2⟩ := rgone_behind1 HL3.out (Below.refl _ _) hb4 hrow hf
    clear hrow hf hb4
    go_wp2_with fail
    obtain ⟨ok5, at5, _, _⟩ := HT2.out.at_
    have hs6 : ((m.goneD k pl).goneR k pl).len ≤ 256 := by simp only [M.len]; exact at5.small
    refine (rlen_any _ at5).mono ?_
    rintro e w6 ⟨rfl, n6, hw6⟩
    subst hw6
    clear at5 d2 f2 hlt4
    go_wp2_with fail
    go_ret
    rw [← HE.out.1, ← HE.out.2]
    exact ⟨rfl, Turned.before HB1.out (Turned.trans HON.out HFP.out (HT2.out.after (below_drewN (Below.refl _ _) n6)))⟩
  · go_enter Try.func54, Try.ntmps54
    go_wp2_with fail
    refine (rlen_any _ HA.out).mono ?_
    rintro e w1 ⟨rfl, n, hw1⟩
    have HB1 : Hid (Below w.heap.size w w1) := (by rw [hw1]; exact below_drewN (Below.refl _ _) _ : Below w.heap.size w w1)
    clear hw1
    have hA1 := HA.out.below HB1.out
    obtain ⟨A, B, C, a, b, c, L⟩ := hA1.rlies
    have c1 := blk_cell L.hb 1
    simp at c1
    have hlt1 := blk_lt L.hb
    have HL := hide L
    have HA1 := hide hA1
    clear L hA1
    go_wp2_with fail
    refine (without_any (ok := fun _ => True) k pl m.D _ (HL.out.h0.rd (fun _ _ => trivial)) (by omega)).mono ?_
    rintro e w2 ⟨A2, a2, rfl, hrow, hf, hb2⟩
    obtain ⟨d1, d2, hg2, f1, hlt2, HT⟩ := rgone_behind0 HL.out (Below.refl _ _) hb2 hrow hf
    have HG2 := hide hg2
    clear hrow hf hb2 c1 hg2
    go_wp2_with fail
    obtain ⟨ok3, at3, on3, fp3⟩ := HT.out.at_
    have L3 := at3.rlies_of (blk_set HG2.out 1 _)
    have HL3 := hide L3
    have HON := hide on3
    have HFP := hide fp3
    clear L3 at3 on3 fp3 HT d1 d2 f1
    refine (without_any (ok := fun _ => True) k pl m.R _ (HL3.out.h1.rd (fun _ _ => trivial)) (by omega)).mono ?_
    rintro e w4 ⟨A4, a4, rfl, hrow, hf, hb4⟩
    obtain ⟨d2, f2, hlt4, HT2⟩ := rgone_behind1 HL3.out (Below.refl _ _) hb4 hrow hf
    clear hrow hf hb4
    go_wp2_with fail
    obtain ⟨ok5, at5, _, _⟩ := HT2.out.at_
    have hs6 : ((m.goneD k pl).goneR k pl).len ≤ 256 := by simp only [M.len]; exact at5.small
    refine (rlen_any _ at5).mono ?_
    rintro e w6 ⟨rfl, n6, hw6⟩
    subst hw6
    clear at5 d2 f2 hlt4
    go_wp2_with fail
    go_ret
    rw [← HE.out.1, ← HE.out.2]
    exact ⟨rfl, Turned.before HB1.out (Turned.trans HON.out HFP.out (HT2.out.after (below_drewN (Below.refl _ _) n6)))⟩
theorem rgone_other (g : Nat) (k pl : Int) (w : World) (h1 : k ≠ 1) (h3 : k ≠ 3) : Calls Try.prog 54 #[.pointer (some ⟨g, 0, none⟩), .int .u8 k, .int .i64 pl] w fun e w' => e = .returned (.int .i64 0) ∧ w' = w := by
  have h1' : (k != 1) = true := by simpa using h1
  have h3' : (k != 3) = true := by simpa using h3
  go_enter Try.func54, Try.ntmps54
  go_wp2
  go_ret
  exact ⟨rfl, rfl⟩
end Go.Proofs.Ytbobjecjopmnfaa
