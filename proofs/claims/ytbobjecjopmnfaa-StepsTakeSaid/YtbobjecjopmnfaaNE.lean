/- StepsTake, whole. -/
import Derived.Test.YtbobjecjopmnfaaND
namespace Go.Proofs.Ytbobjecjopmnfaa
open Go.RowKit
open Pt (szL sz encL enc roots encL_length roots_length enc_length shift RT)
theorem ofT_enc {l : List Nd} (h : rightB l = true) : TN (ofT l).1 ∧ l = encO (ofT l).1 ∧ (ofT l).2 = true := by
  obtain ⟨h1, h2⟩ := ofT_right l
  refine ⟨?_, ?_, h1.trans h⟩
  · rcases h2 h with ⟨_, h3⟩ | ⟨h3, _⟩
    · exact .inl h3
    · exact .inr h3
  · rcases h2 h with ⟨rfl, h3⟩ | ⟨h3, h4⟩
    · rw [h3, encO_nil]
    · rw [encO_RT h3]
      exact h4
theorem stepsTake_true {okt okb : Nat → Prop} {A B : Option Addr} {c bc : Nat} (l : List Nd) (leaf : Int) (b : List Nd) (w : World) (h : Rds El.nd w okt (.slice A l.length c) l) (hb : Rds El.nd w okb (.slice B b.length bc) b) :
    Calls Try.prog 9 #[.agg #[.slice A l.length c], .int .i64 leaf, .agg #[.slice B b.length bc]] w (SaysB true w) := by
  by_cases hf : Few22 l ∧ Few22 b
  · obtain ⟨f0, f2⟩ := hf
    have fit0 : Fits22 l := ⟨by have := f0.1; omega, fun x hx => by have := f0.2 x hx; omega⟩
    have fit2 : Fits22 b := ⟨by have := f2.1; omega, fun x hx => by have := f2.2 x hx; omega⟩
    have ll : ∀ {x : List Nd}, x.length ≤ 60 → x = encO (ofT x).1 → lenO (ofT x).1 ≤ 60 := fun h1 h2 => by
      unfold lenO
      rw [← h2]
      exact h1
    have rt : ∀ {p : Pt}, TN p → p.op ≠ 0 → RT p := fun h1 h2 => by
      rcases h1 with rfl | h1
      · exact absurd rfl h2
      · exact h1
    have lf : ∀ {p : Pt}, TN p → lenO p ≤ 60 → leaf ∈ readyT 0 p → p.op ≠ 0 → -1000 ≤ leaf ∧ leaf ≤ 1000 := fun h1 h2 h3 h4 => by
      have h5 := rt h1 h4
      have h6 := readyT_in _ 0 h5 leaf h3
      rw [lenO_RT h5] at h2
      omega
    by_cases hr : rightB l = true ∧ rightB b = true ∧ leaf ∈ readyT 0 (ofT l).1 ∧ (ofT l).1.op ≠ 0
    · obtain ⟨h1, h2, h3, h4⟩ := hr
      obtain ⟨hq, hle, hk⟩ := ofT_enc h1
      obtain ⟨hp, hbe, hk2⟩ := ofT_enc h2
      have hlq := ll f0.1 hle
      have hlp := ll f2.1 hbe
      have hqr := rt hq h4
      have hta : anewT 0 leaf (ofT b).1 (ofT l).1 = takeT leaf (ofT b).1 (ofT l).1 := by
        rw [take_anew _ 0 leaf _ hqr h3]
        congr 1
        omega
      refine stepsTake_core l b leaf w rfl rfl h hb f0 f2 (ofT l).1 (ofT b).1 (ofT l).2 (ofT b).2 rfl rfl (encO (takeT leaf (ofT b).1 (ofT l).1)) ?_ ?_ (fun _ _ => ⟨hq, hp, hlq, hlp, lf hq hlq, by rw [if_pos ⟨h3, h4⟩]⟩) (fun hn => absurd ⟨hk, hk2⟩ hn)
      · refine (encO_fits (takeT_TN _ _ _ hqr hp) ?_).fits
        have e1 := takeT_len (ofT l).1 leaf (ofT b).1 hqr hp
        have e2 := lenO_RT hqr
        omega
      · intro W hB
        rw [← hta]
        have hb' : Rds El.nd W okb (.slice B (encO (ofT b).1).length bc) (encO (ofT b).1) := by
          rw [← hbe]
          exact hb.below hB
        have e := take_real l (ofT l).1 (ofT b).1 leaf W (h.below hB) hb' hqr (by rw [← encO_RT hqr]; exact hle) fit0 (by have := f0.1; omega) hp (by omega) h3
        rw [← hbe] at e
        exact e
    · have key : ∃ rd : List Int, rd.length ≤ 1000 ∧ (∀ W, Below w.heap.size w W → Calls Try.prog 42 #[.agg #[.slice A l.length c]] W (MadeI rd W)) ∧ (rightB l = true → rightB b = true → rd.contains leaf = false) := by
        cases hrl : rightB l with
        | false =>
          refine ⟨[], Nat.zero_le _, fun W hB => ready_wrong l W (h.below hB) fit0 ?_ hrl, fun h => by cases h⟩
          rcases Nat.eq_zero_or_pos l.length with h0 | h0
          · have e : l = [] := List.length_eq_zero_iff.1 h0
            rw [(rightB_iff l).2 (.inl e)] at hrl
            cases hrl
          · exact h0
        | true =>
          obtain ⟨hq, hle, hk⟩ := ofT_enc hrl
          rcases hq with hq | hq
          · have e : l = [] := by rw [hle, hq, encO_nil]
            subst e
            exact ⟨[], Nat.zero_le _, fun W hB => ready_nil W, fun _ _ => rfl⟩
          · have hsz : lenO (ofT l).1 ≤ 60 := ll f0.1 hle
            rw [lenO_RT hq] at hsz
            refine ⟨readyT 0 (ofT l).1, by have := readyT_len (ofT l).1 0; omega, fun W hB => ready_right l (ofT l).1 W (h.below hB) fit0 hq (by rw [← encO_RT hq]; exact hle), fun _ h2 => ?_⟩
            cases hc : (readyT 0 (ofT l).1).contains leaf with
            | false => rfl
            | true => exact absurd ⟨hrl, h2, List.contains_iff_mem.1 hc, hq.op_ne⟩ hr
      obtain ⟨rd, hrl, hrd, hno⟩ := key
      refine stepsTake_core l b leaf w rfl rfl h hb f0 f2 (ofT l).1 (ofT b).1 (ofT l).2 (ofT b).2 rfl rfl l fit0 (fun W hB => ?_) (fun k1 k2 => ?_) (fun _ => rfl)
      · by_cases hx : rightB b = true ∧ rd.contains leaf = true
        · -- the first tree is wrong then: no leaf is told
          cases h1 : rightB l with
          | true => exact absurd (hno h1 hx.1) (by rw [hx.2]; decide)
          | false =>
            refine take_keep l b leaf [] W (h.below hB) (hb.below hB) fit0 fit2 (Nat.zero_le _) (fun W2 hB2 => ?_) (.inr ⟨hx.1, rfl⟩)
            refine ready_wrong l W2 (h.below (below_then hB hB2)) fit0 ?_ h1
            rcases Nat.eq_zero_or_pos l.length with h0 | h0
            · have e : l = [] := List.length_eq_zero_iff.1 h0
              rw [(rightB_iff l).2 (.inl e)] at h1
              cases h1
            · exact h0
        · refine take_keep l b leaf rd W (h.below hB) (hb.below hB) fit0 fit2 hrl (fun W2 hB2 => hrd W2 (below_then hB hB2)) ?_
          cases h2 : rightB b with
          | false => exact .inl rfl
          | true =>
            refine .inr ⟨rfl, ?_⟩
            cases h3 : rd.contains leaf with
            | false => rfl
            | true => exact absurd ⟨h2, h3⟩ hx
      · have r1 : rightB l = true := (ofT_right l).1.symm.trans k1
        have r2 : rightB b = true := (ofT_right b).1.symm.trans k2
        obtain ⟨hq, hle, _⟩ := ofT_enc r1
        obtain ⟨hp, hbe, _⟩ := ofT_enc r2
        have hlq := ll f0.1 hle
        exact ⟨hq, hp, hlq, ll f2.1 hbe, lf hq hlq, by rw [if_neg (fun hx => hr ⟨r1, r2, hx.1, hx.2⟩)]⟩
  · exact stepsTake_few l b leaf w rfl rfl h hb hf
end Go.Proofs.Ytbobjecjopmnfaa
