/- The walks of Recall, Rows, Next (the pool's). -/
import Derived.Test.YtbobjecjopmnfaaC5
namespace Go.Proofs.Ytbobjecjopmnfaa
open Go.RowKit
/-- The pool's own block has been written: rows that lie in w2 are its rows now. -/
theorem At.stored {w w2 w3 : World} {t e g : Nat} {ok : Nat → Prop} {cs : Array Value} {m' : M} {u0 u1 u2 : Value} (hb : w.heap[g]? = some (.cells cs t (0, 0))) (hB : Below w.heap.size w w2) (ho : Only (fun b => b = g) w2 w3)
    (hg3 : w3.heap[g]? = some (.cells #[.int .i64 m'.room, u0, u1, u2] t (0, 0))) (r0 : Row w2 e 4 u0 m'.D.length (cells m'.D)) (r1 : Row w2 e 4 u1 m'.R.length (cells m'.R)) (r2 : Row w2 e 4 u2 m'.F.length (cells m'.F))
    (a01 : Apart u0 u1) (a02 : Apart u0 u2) (a12 : Apart u1 u2) (hfp : ∀ b, Fp u0 b ∨ Fp u1 b ∨ Fp u2 b → ok b ∨ w.heap.size ≤ b) (hokg : ok g) (hlt : ∀ b, ok b → b < w.heap.size) (hte : e ≠ t) (hOk : m'.Ok) : Turned t e ok g m' w w3 := by
  have hb2 := (hB.block g (blk_lt hb)).trans hb
  have k : ∀ {u : Value} {n : Nat} {xs : List Value}, Row w2 e 4 u n xs → Row w3 e 4 u n xs := fun {u n xs} h => h.only ho (fun b h' he => by subst he; exact h.ne_ hb2 hte h')
  refine ⟨fun b => ok b ∨ Fp u0 b ∨ Fp u1 b ∨ Fp u2 b, ⟨u0, u1, u2, hg3, k r0, k r1, k r2, a01, a02, a12, ?_, ?_, hOk⟩, ?_, ?_⟩
  · rintro b (rfl | h)
    · exact .inl hokg
    · exact .inr h
  · rintro b (h | h | h | h)
    · exact Nat.lt_of_lt_of_le (hlt b h) (Nat.le_trans hB.size ho.size)
    · exact Nat.lt_of_lt_of_le (r0.lt b h) ho.size
    · exact Nat.lt_of_lt_of_le (r1.lt b h) ho.size
    · exact Nat.lt_of_lt_of_le (r2.lt b h) ho.size
  · exact (Only.of_below hB ok).trans ho (fun b hb => by subst hb; exact .inl hokg)
  · rintro b (h | h)
    · exact .inl h
    · exact hfp b h
theorem Only.one (w : World) (g i : Nat) (u : Value) : Only (fun b => b = g) w (w.setCell ⟨g, i, none⟩ u) := Only.setCell (ok := fun b => b = g) (p := ⟨g, i, none⟩) (Only.refl _ _) (.inl rfl) u
theorem from_new {w w1 w2 : World} {v : Value} (hb1 : Below w.heap.size w w1) (hb2 : Below w1.heap.size w1 w2) (hf : ∀ b, Fp v b → w1.heap.size ≤ b) : Below w.heap.size w w2 ∧ ∀ b, Fp v b → w.heap.size ≤ b :=
  ⟨below_then hb1 hb2, fun b h => Nat.le_trans hb1.size (hf b h)⟩
set_option maxHeartbeats 1000000 in
theorem recall_any {g : Nat} {m : M} {ok : Nat → Prop} (w : World) (h : At w 90 31 ok g m) :
    Calls Try.prog 21 #[.pointer (some ⟨g, 0, none⟩)] w fun e w' => e = .returned (.int .i64 m.recall.2) ∧ Turned 90 31 ok g m.recall.1 w w' := by
  have hs := h.small
  obtain ⟨v0, v1, v2, hb, h0, h1, h2, a01, a02, a12, hok, hltok, hOk⟩ := h
  obtain ⟨room, D, R, F⟩ := m
  simp only at hb h0 h1 h2 hs
  obtain ⟨A, ca, rfl, _⟩ := h0.slice_
  obtain ⟨B, cb, rfl, _⟩ := h1.slice_
  obtain ⟨C, cc, rfl, _⟩ := h2.slice_
  have hlt := blk_lt hb
  have c0 := blk_cell hb 0
  have c1 := blk_cell hb 1
  have c2 := blk_cell hb 2
  have c3 := blk_cell hb 3
  simp at c0 c1 c2 c3
  have HB := hide hb
  have H0 := hide h0
  have H1 := hide h1
  have H2 := hide h2
  have HA : Hid (Apart (.slice A D.length ca) (.slice B R.length cb) ∧ Apart (.slice A D.length ca) (.slice C F.length cc) ∧ Apart (.slice B R.length cb) (.slice C F.length cc)) := ⟨a01, a02, a12⟩
  have HO := hide hok
  have HL := hide hltok
  have HK := hide hOk
  have hB1 : Below w.heap.size w (w.alloc (.cells #[.slice C F.length cc, .slice B R.length cb] 41)).drew := ((Below.refl _ _).alloc (Nat.le_refl _) _).drew
  have K1 : Hid ((w.alloc (.cells #[.slice C F.length cc, .slice B R.length cb] 41)).drew.heap[w.heap.size]? = some (.cells #[.slice C F.length cc, .slice B R.length cb] 41 (0, 0))) := heap_alloc_new w _
  have K2 := hide ((h2.rd (ok := fun _ => True) (fun _ _ => trivial)).below hB1)
  have K3 := hide ((h1.rd (ok := fun _ => True) (fun _ _ => trivial)).below hB1)
  have K4 := hide hB1
  clear hb h0 h1 h2 a01 a02 a12 hok hltok hOk hB1
  go_enter Try.func21, Try.ntmps21
  go_wp2
  go_region_law (go_simp; go_at_call 60; refine (concat_any F R _ K1.out K2.out K3.out (by omega)).mono ?_; rintro e w2 ⟨A', c', rfl, hrow, hfp, hb2⟩; obtain ⟨hB2, hf2⟩ := from_new K4.out hb2 hfp; have hg2 := (hB2.block g hlt).trans HB.out; have d2 := blk_cell hg2 2; have d3 := blk_cell hg2 3; have f2 := blk_frozen hg2 2; have f3 := blk_frozen hg2 3; simp at d2 d3; have hlt2 := blk_lt hg2; have HR := hide hrow; have HF := hide hf2; have HB2 := hide hB2; clear hrow hfp hb2 hB2 hf2 hg2)
  all_goals
    go_wp2
    go_ret
    refine ⟨rfl, ?_⟩
    have hg2 := (HB2.out.block g hlt).trans HB.out
    refine At.stored (u0 := .slice A D.length ca) (u1 := .slice A' (F.length + R.length) c') (u2 := .slice none 0 0) HB.out HB2.out ((Only.one _ g 2 _).trans (Only.one _ g 3 _) (fun b h => .inl h)) (blk_set (blk_set hg2 2 _) 3 _) (H0.out.keep (fun b h => HB2.out.block b (H0.out.lt b h))) ?_ (Row.nil _ _ _) ?_ ?_ ?_ ?_ (HO.out _ (.inl rfl)) HL.out (by decide) ?_
    · simp only [M.recall, List.length_append]; exact HR.out
    · exact fun b h h' => absurd (HF.out b h') (by have := H0.out.lt b h; omega)
    · exact fun b _ h' => Fp_none h'
    · exact fun b _ h' => Fp_none h'
    · rintro b (h | h | h)
      · exact .inl (HO.out b (.inr (.inl h)))
      · exact .inr (HF.out b h)
      · exact (Fp_none h).elim
    · exact ⟨HK.out.lo, HK.out.hi, by have := HK.out.fits; simp only [M.recall, M.len, List.length_append, List.length_nil] at *; omega, fun e he => by simp [M.recall] at he⟩
theorem recall_nil (w : World) : Calls Try.prog 21 #[.pointer none] w fun e w' => e = .returned (.int .i64 0) ∧ w' = w := by
  go_enter Try.func21, Try.ntmps21
  go_wp2
  go_ret
  exact ⟨rfl, rfl⟩
/-- A row of one's own: the value v, new since w. -/
def New (w w' : World) (e : TypeId) (l : List Ev) (v : Value) : Prop := Row w' e 4 v l.length (cells l) ∧ ∀ b, Fp v b → w.heap.size ≤ b
set_option maxHeartbeats 2000000 in
theorem rows_any {g : Nat} {m : M} {ok : Nat → Prop} (w : World) (h : At w 90 31 ok g m) :
    Calls Try.prog 22 #[.pointer (some ⟨g, 0, none⟩)] w fun e w' => ∃ A a B b C c, e = .returned (.tuple #[.slice A m.D.length a, .slice B m.R.length b, .slice C m.F.length c]) ∧ Below w.heap.size w w' ∧
      New w w' 31 m.D (.slice A m.D.length a) ∧ New w w' 31 m.R (.slice B m.R.length b) ∧ New w w' 31 m.F (.slice C m.F.length c) ∧
      Apart (.slice A m.D.length a) (.slice B m.R.length b) ∧ Apart (.slice A m.D.length a) (.slice C m.F.length c) ∧ Apart (.slice B m.R.length b) (.slice C m.F.length c) := by
  have hs := h.small
  obtain ⟨v0, v1, v2, hb, h0, h1, h2, _⟩ := h
  obtain ⟨room, D, R, F⟩ := m
  simp only at hb h0 h1 h2 hs
  obtain ⟨A, ca, rfl, _⟩ := h0.slice_
  obtain ⟨B, cb, rfl, _⟩ := h1.slice_
  obtain ⟨C, cc, rfl, _⟩ := h2.slice_
  have hlt := blk_lt hb
  have c1 := blk_cell hb 1
  have c2 := blk_cell hb 2
  have c3 := blk_cell hb 3
  simp at c1 c2 c3
  have HB := hide hb
  have H0 := hide (h0.rd (ok := fun _ => True) (fun _ _ => trivial))
  have H1 := hide (h1.rd (ok := fun _ => True) (fun _ _ => trivial))
  have H2 := hide (h2.rd (ok := fun _ => True) (fun _ _ => trivial))
  clear hb h0 h1 h2
  go_enter Try.func22, Try.ntmps22
  go_wp2
  go_region_held3 (fun w' => w'.cell? ⟨g, 1, none⟩ = some (.slice A D.length ca) ∧ w'.cell? ⟨g, 2, none⟩ = some (.slice B R.length cb) ∧ w'.cell? ⟨g, 3, none⟩ = some (.slice C F.length cc)) (first | exact ⟨f1, f2, f3⟩ | exact ⟨e1, e2, e3⟩ | exact ⟨d1, d2, d3⟩ | go_keep | assumption)
    (first | ((go_at_call 61); (with_reducible refine (clone_any D _ (by exact H0.out.below ((Below.refl _ _).drew)) (by omega)).mono ?_); rintro e w1 ⟨A1, a1, rfl, hrow, hfp, hb⟩; obtain ⟨hB, hf⟩ := from_new ((Below.refl _ _).drew) hb hfp; have hg := (hB.block g hlt).trans HB.out; have d1 := blk_cell hg 1; have d2 := blk_cell hg 2; have d3 := blk_cell hg 3; simp at d1 d2 d3; have HR1 := hide hrow; have HF1 := hide hf; have HN1 := hide hfp; have HB1 := hide hB; have HC1 := hide hb; clear hrow hfp hb hg hB hf) | ((go_at_call 61); (with_reducible refine (clone_any R _ (by exact H1.out.below HB1.out) (by omega)).mono ?_); rintro e w2 ⟨A2, a2, rfl, hrow, hfp, hb⟩; obtain ⟨hB, hf⟩ := from_new HB1.out hb hfp; have hg := (hB.block g hlt).trans HB.out; have e1 := blk_cell hg 1; have e2 := blk_cell hg 2; have e3 := blk_cell hg 3; simp at e1 e2 e3; have HR2 := hide hrow; have HF2 := hide hf; have HN2 := hide hfp; have HB2 := hide hB; have HC2 := hide hb; clear hrow hfp hb hg hB hf) | ((go_at_call 61); (with_reducible refine (clone_any F _ (by exact H2.out.below HB2.out) (by omega)).mono ?_); rintro e w3 ⟨A3, a3, rfl, hrow, hfp, hb⟩; obtain ⟨hB, hf⟩ := from_new HB2.out hb hfp; have hg := (hB.block g hlt).trans HB.out; have f1 := blk_cell hg 1; have f2 := blk_cell hg 2; have f3 := blk_cell hg 3; simp at f1 f2 f3; have HR3 := hide hrow; have HF3 := hide hf; have HN3 := hide hfp; have HB3 := hide hB; have HC3 := hide hb; clear hrow hfp hb hg hB hf))
  all_goals
    go_wp2
    go_ret3
    have hB12 := HB1.out
    have r1 := HR1.out.below HC2.out
    have r1' := r1.below HC3.out
    have r2 := HR2.out.below HC3.out
    refine ⟨A1, a1, A2, a2, A3, a3, by simp, HB3.out, ⟨r1', HF1.out⟩, ⟨r2, HF2.out⟩, ⟨HR3.out, HF3.out⟩, ?_, ?_, ?_⟩
    · exact fun b h h' => absurd (HN2.out b h') (by have := HR1.out.lt b h; omega)
    · exact fun b h h' => absurd (HN3.out b h') (by have := r1.lt b h; omega)
    · exact fun b h h' => absurd (HN3.out b h') (by have := HR2.out.lt b h; omega)
theorem rows_nil (w : World) : Calls Try.prog 22 #[.pointer none] w fun e w' => e = .returned (.tuple #[.slice none 0 0, .slice none 0 0, .slice none 0 0]) ∧ w' = w := by
  go_enter Try.func22, Try.ntmps22
  go_wp2
  go_ret3
  exact ⟨rfl, rfl⟩
end Go.Proofs.Ytbobjecjopmnfaa
