/- The walk of Gone (the pool's). -/
import Derived.Test.YtbobjecjopmnfaaC9
namespace Go.Proofs.Ytbobjecjopmnfaa
open Go.RowKit
/-- What a round of Gone's loop wants of the pool that lies there. -/
structure Lies (w : World) (ok : Nat → Prop) (g : Nat) (m : M) (A B C : Option Addr) (a b c : Nat) : Prop where
  hb : w.heap[g]? = some (.cells #[.int .i64 m.room, .slice A m.D.length a, .slice B m.R.length b, .slice C m.F.length c] 90 (0, 0))
  h0 : Row w 31 4 (.slice A m.D.length a) m.D.length (cells m.D)
  h1 : Row w 31 4 (.slice B m.R.length b) m.R.length (cells m.R)
  h2 : Row w 31 4 (.slice C m.F.length c) m.F.length (cells m.F)
  a01 : Apart (.slice A m.D.length a) (.slice B m.R.length b)
  a02 : Apart (.slice A m.D.length a) (.slice C m.F.length c)
  a12 : Apart (.slice B m.R.length b) (.slice C m.F.length c)
  hok : ∀ q, (q = g ∨ Fp (.slice A m.D.length a) q ∨ Fp (.slice B m.R.length b) q ∨ Fp (.slice C m.F.length c) q) → ok q
  hlt : ∀ q, ok q → q < w.heap.size
  m_ok : m.Ok
theorem At.lies {w : World} {ok : Nat → Prop} {g : Nat} {m : M} (h : At w 90 31 ok g m) : ∃ A B C a b c, Lies w ok g m A B C a b c := by
  obtain ⟨v0, v1, v2, hb, h0, h1, h2, a01, a02, a12, hok, hltok, hOk⟩ := h
  obtain ⟨A, a, rfl, _⟩ := h0.slice_
  obtain ⟨B, b, rfl, _⟩ := h1.slice_
  obtain ⟨C, c, rfl, _⟩ := h2.slice_
  exact ⟨A, B, C, a, b, c, hb, h0, h1, h2, a01, a02, a12, hok, hltok, hOk⟩
theorem Turned.trans {t e g : Nat} {ok ok1 : Nat → Prop} {m : M} {w w1 w2 : World} (h2 : Only ok w w1) (h3 : ∀ b, ok1 b → ok b ∨ w.heap.size ≤ b) (k : Turned t e ok1 g m w1 w2) : Turned t e ok g m w w2 := by
  obtain ⟨ok', k1, k2, k3⟩ := k
  refine ⟨ok', k1, h2.trans k2 h3, fun b hb => ?_⟩
  rcases k3 b hb with h | h
  · exact h3 b h
  · exact .inr (Nat.le_trans h2.size h)
namespace M
def goneD (m : M) (k pl : Int) : M := { m with D := m.D.filter (stays k pl) }
def goneR (m : M) (k pl : Int) : M := { m with R := m.R.filter (stays k pl) }
def goneF (m : M) (k pl : Int) : M := { m with F := m.F.filter (stays k pl) }
end M
theorem goneD_ok {m : M} (h : m.Ok) (k pl : Int) : (m.goneD k pl).Ok := ⟨h.lo, h.hi, by have := h.fits; have := List.length_filter_le (M.stays k pl) m.D; simp only [M.goneD, M.len] at *; omega, h.calls⟩
theorem goneR_ok {m : M} (h : m.Ok) (k pl : Int) : (m.goneR k pl).Ok := ⟨h.lo, h.hi, by have := h.fits; have := List.length_filter_le (M.stays k pl) m.R; simp only [M.goneR, M.len] at *; omega, h.calls⟩
theorem goneF_ok {m : M} (h : m.Ok) (k pl : Int) : (m.goneF k pl).Ok := ⟨h.lo, h.hi, by have := h.fits; have := List.length_filter_le (M.stays k pl) m.F; simp only [M.goneF, M.len] at *; omega, fun e he => h.calls e (List.mem_filter.1 he).1⟩
theorem gone_eq {m : M} (h : m.Ok) (k pl : Int) (hk : k = 1 ∨ k = 3) : (((m.goneD k pl).goneR k pl).goneF k pl) = (m.gone k pl).1 ∧ ((m.len : Int) - (((m.goneD k pl).goneR k pl).goneF k pl).len) = (m.gone k pl).2 := by
  have hf : m.F.filter (M.stays k pl) = m.F := by
    refine List.filter_eq_self.2 fun e he => ?_
    have := h.calls e he
    simp only [M.stays, Bool.not_eq_true', Bool.and_eq_false_iff, beq_eq_false_iff_ne]
    left
    omega
  have hc : ¬ (k ≠ 1 ∧ k ≠ 3) := by omega
  simp only [M.gone, if_neg hc, M.goneD, M.goneR, M.goneF, hf, and_self]
/-- Nothing of the boxes of Gone's two arguments turns. -/
def Boxes (w : World) (k pl : Int) (bk bp : Nat) : Prop := w.heap[bk]? = some (.cells #[.int .u8 k] 5 (0, 0)) ∧ w.heap[bp]? = some (.cells #[.int .i64 pl] 3 (0, 0))
theorem Boxes.only {w w' : World} {k pl : Int} {bk bp : Nat} {ok : Nat → Prop} (h : Boxes w k pl bk bp) (ho : Only ok w w') (h1 : ¬ ok bk) (h2 : ¬ ok bp) : Boxes w' k pl bk bp :=
  ⟨(ho.block bk (blk_lt h.1) h1).trans h.1, (ho.block bp (blk_lt h.2) h2).trans h.2⟩

theorem Only.undrew {ok : Nat → Prop} {w w' : World} (h : Only ok w.drew w') : Only ok w w' := ⟨h.os, h.tape, h.output, h.size, h.block⟩
theorem gone_behind0 {w1 w2 : World} {ok : Nat → Prop} {g bk bp : Nat} {m : M} {A B C : Option Addr} {a b c : Nat} {k pl : Int} (L : Lies w1 ok g m A B C a b c) (HX : Boxes w1 k pl bk bp) (hn0 : ¬ ok bk) (hn1 : ¬ ok bp)
    (hrow : Row w2 31 4 (.slice A (m.D.filter (M.stays k pl)).length a) (m.D.filter (M.stays k pl)).length (cells (m.D.filter (M.stays k pl)))) (ho : Only (Fp (.slice A m.D.length a)) w1.drew w2) :
    w2.cell? ⟨g, 1, none⟩ = some (.slice A m.D.length a) ∧ w2.frozen? ⟨g, 1, none⟩ = false ∧ g < w2.heap.size ∧
      Hid (Turned 90 31 ok g (m.goneD k pl) w1 (w2.setCell ⟨g, 1, none⟩ (.slice A (m.D.filter (M.stays k pl)).length a))) ∧ Hid (Boxes (w2.setCell ⟨g, 1, none⟩ (.slice A (m.D.filter (M.stays k pl)).length a)) k pl bk bp) := by
  have hb2 := (ho.block g (blk_lt L.hb) (L.h0.ne_ L.hb (by decide))).trans L.hb
  have ho' : Only (Fp (.slice A m.D.length a)) w1 w2 := ho.undrew
  have hfo : ∀ q, Fp (.slice A m.D.length a) q → ok q := fun q h => L.hok q (.inr (.inl h))
  have hB2 : Boxes w2 k pl bk bp := HX.only ho' (fun h => hn0 (hfo _ h)) (fun h => hn1 (hfo _ h))
  refine ⟨blk_cell hb2 1, blk_frozen hb2 1, blk_lt hb2, ?_, ?_⟩
  · refine At.row0 L.hb L.h0 L.h1 L.h2 L.a01 L.a02 L.a12 L.hok L.hlt (by decide) (Below.refl _ _) ho' hrow ?_ (goneD_ok L.m_ok k pl)
    rintro q ⟨ad, n', c', he, hc, rfl⟩
    injection he with e1 _ e3
    subst e3
    exact .inl ⟨ad, _, _, by rw [e1], hc, rfl⟩
  · exact hB2.only (ok := fun b => b = g) (Only.one _ _ _ _) (fun h => hn0 (L.hok _ (.inl h))) (fun h => hn1 (L.hok _ (.inl h)))

theorem gone_behind1 {w1 w2 : World} {ok : Nat → Prop} {g bk bp : Nat} {m : M} {A B C : Option Addr} {a b c : Nat} {k pl : Int} (L : Lies w1 ok g m A B C a b c) (HX : Boxes w1 k pl bk bp) (hn0 : ¬ ok bk) (hn1 : ¬ ok bp)
    (hrow : Row w2 31 4 (.slice B (m.R.filter (M.stays k pl)).length b) (m.R.filter (M.stays k pl)).length (cells (m.R.filter (M.stays k pl)))) (ho : Only (Fp (.slice B m.R.length b)) w1.drew w2) :
    w2.cell? ⟨g, 2, none⟩ = some (.slice B m.R.length b) ∧ w2.frozen? ⟨g, 2, none⟩ = false ∧ g < w2.heap.size ∧
      Hid (Turned 90 31 ok g (m.goneR k pl) w1 (w2.setCell ⟨g, 2, none⟩ (.slice B (m.R.filter (M.stays k pl)).length b))) ∧ Hid (Boxes (w2.setCell ⟨g, 2, none⟩ (.slice B (m.R.filter (M.stays k pl)).length b)) k pl bk bp) := by
  have hb2 := (ho.block g (blk_lt L.hb) (L.h1.ne_ L.hb (by decide))).trans L.hb
  have ho' : Only (Fp (.slice B m.R.length b)) w1 w2 := ho.undrew
  have hfo : ∀ q, Fp (.slice B m.R.length b) q → ok q := fun q h => L.hok q (.inr (.inr (.inl h)))
  have hB2 : Boxes w2 k pl bk bp := HX.only ho' (fun h => hn0 (hfo _ h)) (fun h => hn1 (hfo _ h))
  refine ⟨blk_cell hb2 2, blk_frozen hb2 2, blk_lt hb2, ?_, ?_⟩
  · refine At.row1 L.hb L.h0 L.h1 L.h2 L.a01 L.a02 L.a12 L.hok L.hlt (by decide) (Below.refl _ _) ho' hrow ?_ (goneR_ok L.m_ok k pl)
    rintro q ⟨ad, n', c', he, hc, rfl⟩
    injection he with e1 _ e3
    subst e3
    exact .inl ⟨ad, _, _, by rw [e1], hc, rfl⟩
  · exact hB2.only (ok := fun b => b = g) (Only.one _ _ _ _) (fun h => hn0 (L.hok _ (.inl h))) (fun h => hn1 (L.hok _ (.inl h)))

theorem gone_behind2 {w1 w2 : World} {ok : Nat → Prop} {g bk bp : Nat} {m : M} {A B C : Option Addr} {a b c : Nat} {k pl : Int} (L : Lies w1 ok g m A B C a b c) (HX : Boxes w1 k pl bk bp) (hn0 : ¬ ok bk) (hn1 : ¬ ok bp)
    (hrow : Row w2 31 4 (.slice C (m.F.filter (M.stays k pl)).length c) (m.F.filter (M.stays k pl)).length (cells (m.F.filter (M.stays k pl)))) (ho : Only (Fp (.slice C m.F.length c)) w1.drew w2) :
    w2.cell? ⟨g, 3, none⟩ = some (.slice C m.F.length c) ∧ w2.frozen? ⟨g, 3, none⟩ = false ∧ g < w2.heap.size ∧
      Hid (Turned 90 31 ok g (m.goneF k pl) w1 (w2.setCell ⟨g, 3, none⟩ (.slice C (m.F.filter (M.stays k pl)).length c))) ∧ Hid (Boxes (w2.setCell ⟨g, 3, none⟩ (.slice C (m.F.filter (M.stays k pl)).length c)) k pl bk bp) := by
  have hb2 := (ho.block g (blk_lt L.hb) (L.h2.ne_ L.hb (by decide))).trans L.hb
  have ho' : Only (Fp (.slice C m.F.length c)) w1 w2 := ho.undrew
  have hfo : ∀ q, Fp (.slice C m.F.length c) q → ok q := fun q h => L.hok q (.inr (.inr (.inr h)))
  have hB2 : Boxes w2 k pl bk bp := HX.only ho' (fun h => hn0 (hfo _ h)) (fun h => hn1 (hfo _ h))
  refine ⟨blk_cell hb2 3, blk_frozen hb2 3, blk_lt hb2, ?_, ?_⟩
  · refine At.row2 L.hb L.h0 L.h1 L.h2 L.a01 L.a02 L.a12 L.hok L.hlt (by decide) (Below.refl _ _) ho' hrow ?_ (goneF_ok L.m_ok k pl)
    rintro q ⟨ad, n', c', he, hc, rfl⟩
    injection he with e1 _ e3
    subst e3
    exact .inl ⟨ad, _, _, by rw [e1], hc, rfl⟩
  · exact hB2.only (ok := fun b => b = g) (Only.one _ _ _ _) (fun h => hn0 (L.hok _ (.inl h))) (fun h => hn1 (L.hok _ (.inl h)))

theorem gone_not {w1 : World} {ok ok0 : Nat → Prop} {k pl : Int} {bk bp : Nat} (hN : ¬ ok bk ∧ ¬ ok bp) (HX : Boxes w1 k pl bk bp) (fp : ∀ b, ok0 b → ok b ∨ w1.heap.size ≤ b) : ¬ ok0 bk ∧ ¬ ok0 bp := by
  have h1 := blk_lt HX.1
  have h2 := blk_lt HX.2
  refine ⟨fun h => ?_, fun h => ?_⟩
  · rcases fp _ h with h | h
    · exact hN.1 h
    · omega
  · rcases fp _ h with h | h
    · exact hN.2 h
    · omega
theorem Turned.at_ {t e g : Nat} {ok : Nat → Prop} {m : M} {w w' : World} (h : Turned t e ok g m w w') : ∃ ok', At w' t e ok' g m ∧ Only ok w w' ∧ ∀ b, ok' b → ok b ∨ w.heap.size ≤ b := h
theorem gone_nil (k pl : Int) (w : World) : Calls Try.prog 26 #[.pointer none, .int .u8 k, .int .i64 pl] w fun e w' => e = .returned (.int .i64 0) ∧ Below w.heap.size w w' := by
  go_enter Try.func26, Try.ntmps26
  go_wp2
  go_ret
  exact ⟨rfl, ((Below.refl _ _).alloc (Nat.le_refl _) _).alloc (by simp) _⟩
theorem gone_other (g : Nat) (k pl : Int) (w : World) (h1 : k ≠ 1) (h3 : k ≠ 3) : Calls Try.prog 26 #[.pointer (some ⟨g, 0, none⟩), .int .u8 k, .int .i64 pl] w fun e w' => e = .returned (.int .i64 0) ∧ Below w.heap.size w w' := by
  have h1' : (k != 1) = true := by simpa using h1
  have h3' : (k != 3) = true := by simpa using h3
  go_enter Try.func26, Try.ntmps26
  go_wp2
  go_ret
  exact ⟨rfl, ((Below.refl _ _).alloc (Nat.le_refl _) _).alloc (by simp) _⟩
set_option maxHeartbeats 4000000 in
theorem gone_any {g : Nat} {m : M} {ok : Nat → Prop} (k pl : Int) (w : World) (h : At w 90 31 ok g m) (hk : k = 1 ∨ k = 3) :
    Calls Try.prog 26 #[.pointer (some ⟨g, 0, none⟩), .int .u8 k, .int .i64 pl] w fun e w' => e = .returned (.int .i64 (m.gone k pl).2) ∧ Turned 90 31 ok g (m.gone k pl).1 w w' := by
  have hs := h.small
  have H := hide h
  have HE := hide (gone_eq h.ok k pl hk)
  have hb0 : Below w.heap.size w ((w.alloc (.cells #[.int .u8 k] 5)).alloc (.cells #[.int .i64 pl] 3)) := ((Below.refl _ _).alloc (Nat.le_refl _) _).alloc (by simp) _
  have hA0 := h.below hb0
  have HX : Hid (Boxes ((w.alloc (.cells #[.int .u8 k] 5)).alloc (.cells #[.int .i64 pl] 3)) k pl w.heap.size (w.heap.size + 1)) := ⟨blk_alloc (heap_alloc_new w _) _, blk_new (by simp)⟩
  have hn0 : ¬ ok w.heap.size := fun h' => by have := h.lt _ h'; omega
  have hn1 : ¬ ok (w.heap.size + 1) := fun h' => by have := h.lt _ h'; omega
  have HN : Hid (¬ ok w.heap.size ∧ ¬ ok (w.heap.size + 1)) := ⟨hn0, hn1⟩
  have HB0 := hide hb0
  have HA0 := hide hA0
  clear h hb0 hA0 hn0 hn1
  have hk1 : ((k != 1) = false) ∨ ((k != 1) = true ∧ (k != 3) = false) := by
    rcases hk with rfl | rfl
    · left; rfl
    · right; exact ⟨rfl, rfl⟩
  have HK := hide hk
  clear hk
  rcases hk1 with hk1 | ⟨hk1, hk3⟩
  · go_enter Try.func26, Try.ntmps26
    go_wp2_with (go_at_call 24; refine (plen_any _ HA0.out).mono ?_; rintro e w2 ⟨rfl, rfl⟩)
    revert HA0 HX HB0
    generalize (w.alloc (.cells #[.int .u8 k] 5)).alloc (.cells #[.int .i64 pl] 3) = w1
    intro HX HB0 HA0
    refine wp_loop_rounds 4 ?_
    obtain ⟨A0, B0, C0, a0, b0, c0, L⟩ := HA0.out.lies
    have c00 := blk_cell L.hb 1
    simp at c00
    have hlt0 := blk_lt L.hb
    have hsm0 := HA0.out.small
    have HD0 := hide (delete_any _ _ k pl m.D w1.drew L.h0 (by omega) HX.out.1 HX.out.2)
    have HL0 := hide L
    clear L hsm0
    rw [rounds_succ]
    go_wp2
    go_region_law (go_simp; go_at_call 62; refine Calls.mono HD0.out ?_; rintro e w20 ⟨rfl, hrow, honly⟩; obtain ⟨d0, f0, hlt20, HT0, HX0⟩ := gone_behind0 HL0.out HX.out HN.out.1 HN.out.2 hrow honly; clear hrow honly)
    all_goals
      go_wp2
      revert HT0 HX0
      generalize World.setCell w20 ⟨g, 1, none⟩ _ = w30
      intro HT0 HX0
      obtain ⟨ok0, at0, on0, fp0⟩ := HT0.out.at_
      have AT0 := hide at0
      have ON0 := hide on0
      have FP0 := hide fp0
      have HN0 := hide (gone_not HN.out HX.out fp0)
      clear at0 on0 fp0 d0 f0 c00 HD0
      obtain ⟨A1, B1, C1, a1, b1, c1, L⟩ := AT0.out.lies
      have c11 := blk_cell L.hb 2
      simp at c11
      have hlt1 := blk_lt L.hb
      have hsm1 := AT0.out.small
      have HD1 := hide (delete_any _ _ k pl (m.goneD k pl).R w30.drew L.h1 (by omega) HX0.out.1 HX0.out.2)
      have HL1 := hide L
      clear L hsm1
      rw [rounds_succ]
      go_wp2
      go_region_law (go_simp; go_at_call 62; refine Calls.mono HD1.out ?_; rintro e w21 ⟨rfl, hrow, honly⟩; obtain ⟨d1, f1, hlt21, HT1, HX1⟩ := gone_behind1 HL1.out HX0.out HN0.out.1 HN0.out.2 hrow honly; clear hrow honly)
      all_goals
        go_wp2
        revert HT1 HX1
        generalize World.setCell w21 ⟨g, 2, none⟩ _ = w31
        intro HT1 HX1
        obtain ⟨ok1, at1, on1, fp1⟩ := HT1.out.at_
        have AT1 := hide at1
        have ON1 := hide on1
        have FP1 := hide fp1
        have HN1 := hide (gone_not HN0.out HX0.out fp1)
        clear at1 on1 fp1 d1 f1 c11 HD1
        obtain ⟨A2, B2, C2, a2, b2, c2, L⟩ := AT1.out.lies
        have c22 := blk_cell L.hb 3
        simp at c22
        have hlt2 := blk_lt L.hb
        have hsm2 := AT1.out.small
        have HD2 := hide (delete_any _ _ k pl ((m.goneD k pl).goneR k pl).F w31.drew L.h2 (by omega) HX1.out.1 HX1.out.2)
        have HL2 := hide L
        clear L hsm2
        rw [rounds_succ]
        go_wp2
        go_region_law (go_simp; go_at_call 62; refine Calls.mono HD2.out ?_; rintro e w22 ⟨rfl, hrow, honly⟩; obtain ⟨d2, f2, hlt22, HT2, HX2⟩ := gone_behind2 HL2.out HX1.out HN1.out.1 HN1.out.2 hrow honly; clear hrow honly)
        all_goals
          go_wp2
          revert HT2 HX2
          generalize World.setCell w22 ⟨g, 3, none⟩ _ = w32
          intro HT2 HX2
          obtain ⟨ok2, at2, on2, fp2⟩ := HT2.out.at_
          have AT2 := hide at2
          have ON2 := hide on2
          have FP2 := hide fp2
          have HN2 := hide (gone_not HN1.out HX1.out fp2)
          clear at2 on2 fp2 d2 f2 c22 HD2
          have hs3 := AT2.out.small
          have hs4 : (((m.goneD k pl).goneR k pl).goneF k pl).len ≤ 256 := by simp only [M.len]; exact hs3
          have hs5 : m.len ≤ 256 := by simp only [M.len]; exact hs
          clear hs3
          rw [rounds_succ]
          go_wp2_with (go_at_call 24; refine (plen_any _ AT2.out).mono ?_; rintro e w2 ⟨rfl, rfl⟩)
          go_ret
          rw [← HE.out.1, ← HE.out.2]
          exact ⟨rfl, Turned.before HB0.out (Turned.trans ON0.out FP0.out (Turned.trans ON1.out FP1.out HT2.out))⟩
  · go_enter Try.func26, Try.ntmps26
    go_wp2_with (go_at_call 24; refine (plen_any _ HA0.out).mono ?_; rintro e w2 ⟨rfl, rfl⟩)
    revert HA0 HX HB0
    generalize (w.alloc (.cells #[.int .u8 k] 5)).alloc (.cells #[.int .i64 pl] 3) = w1
    intro HX HB0 HA0
    refine wp_loop_rounds 4 ?_
    obtain ⟨A0, B0, C0, a0, b0, c0, L⟩ := HA0.out.lies
    have c00 := blk_cell L.hb 1
    simp at c00
    have hlt0 := blk_lt L.hb
    have hsm0 := HA0.out.small
    have HD0 := hide (delete_any _ _ k pl m.D w1.drew L.h0 (by omega) HX.out.1 HX.out.2)
    have HL0 := hide L
    clear L hsm0
    rw [rounds_succ]
    go_wp2
    go_region_law (go_simp; go_at_call 62; refine Calls.mono HD0.out ?_; rintro e w20 ⟨rfl, hrow, honly⟩; obtain ⟨d0, f0, hlt20, HT0, HX0⟩ := gone_behind0 HL0.out HX.out HN.out.1 HN.out.2 hrow honly; clear hrow honly)
    all_goals
      go_wp2
      revert HT0 HX0
      generalize World.setCell w20 ⟨g, 1, none⟩ _ = w30
      intro HT0 HX0
      obtain ⟨ok0, at0, on0, fp0⟩ := HT0.out.at_
      have AT0 := hide at0
      have ON0 := hide on0
      have FP0 := hide fp0
      have HN0 := hide (gone_not HN.out HX.out fp0)
      clear at0 on0 fp0 d0 f0 c00 HD0
      obtain ⟨A1, B1, C1, a1, b1, c1, L⟩ := AT0.out.lies
      have c11 := blk_cell L.hb 2
      simp at c11
      have hlt1 := blk_lt L.hb
      have hsm1 := AT0.out.small
      have HD1 := hide (delete_any _ _ k pl (m.goneD k pl).R w30.drew L.h1 (by omega) HX0.out.1 HX0.out.2)
      have HL1 := hide L
      clear L hsm1
      rw [rounds_succ]
      go_wp2
      go_region_law (go_simp; go_at_call 62; refine Calls.mono HD1.out ?_; rintro e w21 ⟨rfl, hrow, honly⟩; obtain ⟨d1, f1, hlt21, HT1, HX1⟩ := gone_behind1 HL1.out HX0.out HN0.out.1 HN0.out.2 hrow honly; clear hrow honly)
      all_goals
        go_wp2
        revert HT1 HX1
        generalize World.setCell w21 ⟨g, 2, none⟩ _ = w31
        intro HT1 HX1
        obtain ⟨ok1, at1, on1, fp1⟩ := HT1.out.at_
        have AT1 := hide at1
        have ON1 := hide on1
        have FP1 := hide fp1
        have HN1 := hide (gone_not HN0.out HX0.out fp1)
        clear at1 on1 fp1 d1 f1 c11 HD1
        obtain ⟨A2, B2, C2, a2, b2, c2, L⟩ := AT1.out.lies
        have c22 := blk_cell L.hb 3
        simp at c22
        have hlt2 := blk_lt L.hb
        have hsm2 := AT1.out.small
        have HD2 := hide (delete_any _ _ k pl ((m.goneD k pl).goneR k pl).F w31.drew L.h2 (by omega) HX1.out.1 HX1.out.2)
        have HL2 := hide L
        clear L hsm2
        rw [rounds_succ]
        go_wp2
        go_region_law (go_simp; go_at_call 62; refine Calls.mono HD2.out ?_; rintro e w22 ⟨rfl, hrow, honly⟩; obtain ⟨d2, f2, hlt22, HT2, HX2⟩ := gone_behind2 HL2.out HX1.out HN1.out.1 HN1.out.2 hrow honly; clear hrow honly)
        all_goals
          go_wp2
          revert HT2 HX2
          generalize World.setCell w22 ⟨g, 3, none⟩ _ = w32
          intro HT2 HX2
          obtain ⟨ok2, at2, on2, fp2⟩ := HT2.out.at_
          have AT2 := hide at2
          have ON2 := hide on2
          have FP2 := hide fp2
          have HN2 := hide (gone_not HN1.out HX1.out fp2)
          clear at2 on2 fp2 d2 f2 c22 HD2
          have hs3 := AT2.out.small
          have hs4 : (((m.goneD k pl).goneR k pl).goneF k pl).len ≤ 256 := by simp only [M.len]; exact hs3
          have hs5 : m.len ≤ 256 := by simp only [M.len]; exact hs
          clear hs3
          rw [rounds_succ]
          go_wp2_with (go_at_call 24; refine (plen_any _ AT2.out).mono ?_; rintro e w2 ⟨rfl, rfl⟩)
          go_ret
          rw [← HE.out.1, ← HE.out.2]
          exact ⟨rfl, Turned.before HB0.out (Turned.trans ON0.out FP0.out (Turned.trans ON1.out FP1.out HT2.out))⟩
end Go.Proofs.Ytbobjecjopmnfaa
