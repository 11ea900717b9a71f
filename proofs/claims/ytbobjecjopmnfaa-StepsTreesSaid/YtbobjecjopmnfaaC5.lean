/- The walks of Clone, Grow, Concat. -/
import Derived.Test.YtbobjecjopmnfaaC4
import Derived.Lib.AppendZeros
import Derived.Lib.SliceRun
namespace Go.Proofs.Ytbobjecjopmnfaa
open Go.RowKit
theorem Rd.none_ {w : World} {ok : Nat → Prop} {sz n c : Nat} {xs : List Value} (h : Rd w ok sz (.slice none n c) n xs) : n = 0 := by
  obtain ⟨_, A, c', he, _, h4⟩ := h
  injection he with h1 _ _
  rcases Nat.eq_zero_or_pos n with h0 | h0
  · exact h0
  · obtain ⟨ad, h5, _⟩ := h4 h0
    rw [h5] at h1
    cases h1
theorem Fp_zero {A : Option Addr} {n b : Nat} (h : Fp (.slice A n 0) b) : False := by
  obtain ⟨_, _, _, he, hc, _⟩ := h
  injection he with _ _ h3
  omega
set_option maxHeartbeats 400000 in
theorem clone_any {ok : Nat → Prop} {A : Option Addr} {c : Nat} (l : List Ev) (w : World) (h : Rd w ok 4 (.slice A l.length c) l.length (cells l)) (hl : l.length ≤ 1000) :
    Calls Try.prog 61 #[.slice A l.length c] w fun e w' => ∃ A' c', e = .returned (.slice A' l.length c') ∧ Row w' 31 4 (.slice A' l.length c') l.length (cells l) ∧ (∀ b, Fp (.slice A' l.length c') b → w.heap.size ≤ b) ∧ Below w.heap.size w w' := by
  have qT : ∀ (w : World) (a : Option Addr) (n c n' c' : Nat), (binOp .eql 41 (.slice a n c) (.slice none n' c')).run Try.prog w = .ok (.bool a.isNone) w := fun w a n c n' c' => Lib.run_eql_slice_nil w _ _ a n c n' c' Try.underlying41
  have H := hide h
  clear h
  cases A with
  | none =>
    have h0 := H.out.none_
    have hl0 : l = [] := List.eq_nil_of_length_eq_zero h0
    subst hl0
    go_enter Try.func61, Try.ntmps61
    go_wp2
    go_ret
    exact ⟨none, 0, rfl, Row.nil _ _ _, fun b hb => (Fp_none hb).elim, Below.refl _ _⟩
  | some a =>
    go_enter Try.func61, Try.ntmps61
    go_wp2_with (at_builtin; refine wpList_append_row _ rfl (.tmp 5) (.tmp 6) 41 31 rfl _ 4 40 Try.underlying41 info31 rfl (by decide) (by decide) (.slice (some ⟨w.heap.size, 0, none⟩) 0 0) 0 [] rfl (Row.empty _ _ _ _) ok (.slice (some a) l.length c) l.length (cells l) rfl (H.out.below ((Below.refl _ _).alloc (Nat.le_refl _) _)) (cells_one _) (by omega) ?_; intro A' c' w1 hrow' honly hfp; have HR := hide hrow'; have HY := hide honly; have HF := hide hfp; clear hrow' honly hfp)
    go_ret
    have h1 : Below w.heap.size w (w.alloc (.cells #[] 31)) := (Below.refl _ _).alloc (Nat.le_refl _) _
    refine ⟨A', c', by simp, by simpa using HR.out, fun b hb => ?_, below_then h1 (HY.out.below (B := (w.alloc (.cells #[] 31)).heap.size) (fun b hb => (Fp_zero hb).elim) (Nat.le_refl _))⟩
    rcases HF.out b (by simpa using hb) with h2 | h2
    · exact (Fp_zero h2).elim
    · exact Nat.le_trans h1.size h2
theorem grow_any (n : Int) (w : World) (h0 : 0 ≤ n) (h1 : n ≤ 1000) :
    Calls Try.prog 78 #[.slice none 0 0, .int .i64 n] w fun e w' => ∃ A' c', e = .returned (.slice A' 0 c') ∧ Row w' 31 4 (.slice A' 0 c') 0 [] ∧ (∀ b, Fp (.slice A' 0 c') b → w.heap.size ≤ b) ∧ Below w.heap.size w w' := by
  obtain ⟨n, rfl⟩ := Int.eq_ofNat_of_zero_le h0
  rcases Nat.eq_zero_or_pos n with hn | hn
  · subst hn
    go_enter Try.func78, Try.ntmps78
    go_wp2
    go_ret
    exact ⟨none, 0, rfl, Row.nil _ _ _, fun b hb => (Fp_none hb).elim, Below.refl _ _⟩
  · obtain ⟨i0, hi, hzz⟩ := Option.map_eq_some_iff.1 info31
    simp only [Prod.mk.injEq] at hzz
    obtain ⟨hz0, hz1, hz2⟩ := hzz
    have hr := fun w => Lib.run_append_nil_zeros (P := Try.prog) w 41 3 41 31 i0 _ .i64 .i64 Try.underlying41 Try.underlying3 hi hz0 n hn (by omega) (by omega) (by rw [hz2]; omega)
    have HR := hide hr
    clear hr
    go_enter Try.func78, Try.ntmps78
    clear hz0 hz1 hz2 hi
    go_wp2_with (at_builtin; refine Lib.wpList_append_run _ rfl (.tmp 20) (.tmp 21) 41 3 rfl (.slice none 0 0) (.int .i64 n) rfl rfl _ _ (HR.out _) ?_)
    go_ret
    have hge := grownCap_ge w n 0 31
    have hcm := grownCap_le_maxLen w n 0 31 (by simp only [maxLen]; omega)
    refine ⟨some ⟨w.heap.size, 0, none⟩, grownCap w n 0 31, by simp, ⟨by simp, _, _, rfl, Nat.zero_le _, fun _ => ⟨w.heap.size, 0, _, rfl, heap_alloc_new w _, by omega, ?_, by simp⟩⟩, ?_, ((Below.refl _ _).alloc (Nat.le_refl _) _).drew⟩
    · simp only [Array.size_append, size_zeroCells]
      simp
      omega
    · rintro b ⟨a, _, _, he, _, rfl⟩
      injection he with he
      injection he with he
      subst he
      exact Nat.le_refl _
/-- What the call has made goes on being its own. -/
theorem own_step {w w1 w2 : World} {v v' : Value} (hb : Below w.heap.size w w1) (hf : ∀ b, Fp v b → w.heap.size ≤ b) (ho : Only (Fp v) w1 w2) (hfp : ∀ b, Fp v' b → Fp v b ∨ w1.heap.size ≤ b) :
    Below w.heap.size w w2 ∧ ∀ b, Fp v' b → w.heap.size ≤ b :=
  ⟨hb.trans (ho.below hf hb.size), fun b h => (hfp b h).elim (hf b) (Nat.le_trans hb.size)⟩
set_option maxHeartbeats 1000000 in
theorem concat_any {ok : Nat → Prop} {A B : Option Addr} {a b g : Nat} (l m : List Ev) (w : World) (hg : w.heap[g]? = some (.cells #[.slice A l.length a, .slice B m.length b] 41 (0, 0)))
    (hA : Rd w ok 4 (.slice A l.length a) l.length (cells l)) (hB : Rd w ok 4 (.slice B m.length b) m.length (cells m)) (hl : l.length + m.length ≤ 1000) :
    Calls Try.prog 60 #[.slice (some ⟨g, 0, none⟩) 2 2] w fun e w' => ∃ A' c', e = .returned (.slice A' (l.length + m.length) c') ∧ Row w' 31 4 (.slice A' (l.length + m.length) c') (l.length + m.length) (cells (l ++ m)) ∧ (∀ b, Fp (.slice A' (l.length + m.length) c') b → w.heap.size ≤ b) ∧ Below w.heap.size w w' := by
  have hlt := blk_lt hg
  have c0 := blk_cell hg 0
  have c1 := blk_cell hg 1
  simp at c0 c1
  have HG := hide hg
  have HA := hide hA
  have HB := hide hB
  clear hg hA hB
  go_enter Try.func60, Try.ntmps60
  go_wp2
  refine wp_loop_rounds 3 ?_
  rw [rounds_succ]; go_wp2
  rw [rounds_succ]; go_wp2
  rw [rounds_succ]
  go_wp2_with (go_at_call 78; refine (grow_any _ _ (by omega) (by omega)).mono ?_; rintro e w1 ⟨A1, a1, rfl, hrow, hfp, hb1⟩; have hg1 := (hb1.block g hlt).trans HG.out; have d0 := blk_cell hg1 0; have d1 := blk_cell hg1 1; simp at d0 d1; have HG1 := hide hg1; have HR := hide hrow; have HF := hide hfp; have HB1 := hide hb1; clear hrow hfp hb1 hg1)
  refine wp_loop_rounds 3 ?_
  rw [rounds_succ]
  go_wp2_with (at_builtin; refine wpList_append_row _ rfl (.tmp 31) (.tmp 32) 41 31 rfl _ 4 40 Try.underlying41 info31 rfl (by decide) (by decide) (.slice A1 0 a1) 0 [] rfl HR.out ok (.slice A l.length a) l.length (cells l) rfl (HA.out.below HB1.out) (cells_one _) (by omega) ?_; intro A2 a2 w2 hrow2 honly2 hfp2; simp only [Nat.zero_add, List.nil_append] at hrow2 hfp2; obtain ⟨hb2, hf2⟩ := own_step HB1.out HF.out honly2 hfp2; have hg2 := (hb2.block g hlt).trans HG.out; have e0 := blk_cell hg2 0; have e1 := blk_cell hg2 1; simp at e0 e1; have HR2 := hide hrow2; have HF2 := hide hf2; have HB2 := hide hb2; clear hrow2 honly2 hfp2 hb2 hf2 hg2 d0 d1 c0 c1)
  rw [rounds_succ]
  go_wp2_with (at_builtin; refine wpList_append_row _ rfl (.tmp 31) (.tmp 32) 41 31 rfl _ 4 40 Try.underlying41 info31 rfl (by decide) (by decide) (.slice A2 l.length a2) l.length (cells l) rfl HR2.out ok (.slice B m.length b) m.length (cells m) rfl (HB.out.below HB2.out) (cells_one _) (by omega) ?_; intro A3 a3 w3 hrow3 honly3 hfp3; obtain ⟨hb3, hf3⟩ := own_step HB2.out HF2.out honly3 hfp3; have HR3 := hide hrow3; have HF3 := hide hf3; have HB3 := hide hb3; clear hrow3 honly3 hfp3 hb3 hf3)
  rw [rounds_succ]
  go_wp2
  go_ret
  refine ⟨A3, a3, by simp, ?_, ?_, HB3.out⟩
  · have := HR3.out
    simpa [cells_append] using this
  · have := HF3.out
    simpa using this
end Go.Proofs.Ytbobjecjopmnfaa
