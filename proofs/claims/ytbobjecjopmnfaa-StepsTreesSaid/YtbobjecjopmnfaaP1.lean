/- The walks of Same, of the reference's Leaf. -/
import Derived.Test.YtbobjecjopmnfaaKD
import Derived.Test.YtbobjecjopmnfaaN6
namespace Go.Proofs.Ytbobjecjopmnfaa
open Go.RowKit
theorem nodeq_any {ok ok' : Nat → Prop} {K K' : Option Addr} {n n' c c' : Nat} (x y : Nd) (hn : n = x.kids.length) (hn' : n' = y.kids.length) (hl : n ≤ 100000) (w : World) (h : Rds El.int w ok (.slice K n c) x.kids) (h' : Rds El.int w ok' (.slice K' n' c') y.kids) :
    Calls Try.prog 75 #[.agg #[.int .u8 x.op, .int .i64 x.pl, .slice K n c], .agg #[.int .u8 y.op, .int .i64 y.pl, .slice K' n' c']] w (SaysB (decide (x = y)) w) := by
  have he : ∀ W, Below w.heap.size w W → Calls Try.prog 70 #[.slice K n c, .slice K' n' c'] W fun e w' => e = .returned (.bool (decide (x.kids = y.kids))) ∧ ∃ n, w' = W.drewN n := fun W hB => by
    subst hn; subst hn'
    exact equal_any x.kids y.kids hl W (h.below hB) (h'.below hB)
  have HE := hide he
  obtain ⟨xo, xp, xk⟩ := x
  obtain ⟨yo, yp, yk⟩ := y
  simp only at HE
  clear he h h' hn hn' hl
  simp only
  by_cases h1 : xo = yo
  · subst h1
    by_cases h2 : xp = yp
    · subst h2
      have e : decide ((⟨xo, xp, xk⟩ : Nd) = ⟨xo, xp, yk⟩) = decide (xk = yk) := by simp [nd_eq]
      rw [e]
      obtain ⟨r, hr⟩ : ∃ r, r = decide (xk = yk) := ⟨_, rfl⟩
      rw [← hr] at HE ⊢
      clear e hr
      go_enter Try.func75, Try.ntmps75
      go_wp2_with (go_at_call 70; refine (HE.out _ (by repeat (first | exact Below.refl _ _ | refine Below.alloc ?_ (by simp) _))).mono ?_; rintro e w2 ⟨rfl, k, rfl⟩)
      go_ret
      exact ⟨rfl, by repeat (first | exact Below.refl _ _ | refine below_drewN ?_ _ | refine Below.alloc ?_ (by simp) _)⟩
    · have e : decide ((⟨xo, xp, xk⟩ : Nd) = ⟨xo, yp, yk⟩) = false := by simp [nd_eq, h2]
      rw [e]
      have d : (xp == yp) = false := by rw [beq_eq_false_iff_ne]; exact h2
      clear e h2 HE
      go_enter Try.func75, Try.ntmps75
      go_wp2
      go_ret
      exact ⟨rfl, by repeat (first | exact Below.refl _ _ | refine Below.alloc ?_ (by simp) _)⟩
  · have e : decide ((⟨xo, xp, xk⟩ : Nd) = ⟨yo, yp, yk⟩) = false := by simp [nd_eq, h1]
    rw [e]
    have d : (xo == yo) = false := by rw [beq_eq_false_iff_ne]; exact h1
    clear e h1 HE
    go_enter Try.func75, Try.ntmps75
    go_wp2
    go_ret
    exact ⟨rfl, by repeat (first | exact Below.refl _ _ | refine Below.alloc ?_ (by simp) _)⟩
set_option maxHeartbeats 4000000 in
theorem equalfunc_nd {ok ok' : Nat → Prop} {A B : Option Addr} {n n' c c' : Nat} (l m : List Nd) (hn : n = l.length) (hn' : n' = m.length) (hl : n ≤ 100000) (hf : ∀ x ∈ l, x.kids.length ≤ 100000) (w : World) (h : Rds El.nd w ok (.slice A n c) l) (h' : Rds El.nd w ok' (.slice B n' c') m) :
    Calls Try.prog 74 #[.slice A n c, .slice B n' c', .func (.func 75) #[] #[]] w (SaysB (decide (l = m)) w) := by
  by_cases hnn : n = n'
  · subst hnn
    have H := hide h
    have H' := hide h'
    have HN := hide hn
    have HN' := hide hn'
    have HF := hide hf
    clear h h' hn hn' hf
    go_enter Try.func74, Try.ntmps74
    go_wp2
    go_loopw [17] (fun iv wr => ∃ j : Nat, j ≤ n ∧ iv = .int .i64 j ∧ Hid (l.take j = m.take j) ∧ Hid (Below w.heap.size w wr)) (fun i _ => n - (intOf i).toNat)
    case atStart => exact ⟨0, Nat.zero_le _, rfl, rfl, Below.refl _ _⟩
    case round =>
      obtain ⟨j, hj, rfl, HT, HB⟩ := hrel
      by_cases hlt : j < n
      · have hjl : j < l.length := by have := HN.out; omega
        have hjm : j < m.length := by have := HN'.out; omega
        obtain ⟨ad, K, kc, hA, -, hltd, x0, x1, x2, hk⟩ := (H.out.below HB.out).nd j hjl
        obtain ⟨bd, K', kc', hB, -, hltb, y0, y1, y2, hk'⟩ := (H'.out.below HB.out).nd j hjm
        have hkl := HF.out _ (List.getElem_mem hjl)
        obtain ⟨x, hx⟩ : ∃ x, x = l[j] := ⟨_, rfl⟩
        obtain ⟨y, hy⟩ : ∃ y, y = m[j] := ⟨_, rfl⟩
        rw [← hx] at x0 x1 x2 hk hkl
        rw [← hy] at y0 y1 y2 hk'
        have hstep : l.take (j + 1) = l.take j ++ [x] ∧ m.take (j + 1) = m.take j ++ [y] := ⟨by rw [hx, List.take_succ_eq_append_getElem hjl], by rw [hy, List.take_succ_eq_append_getElem hjm]⟩
        have hall : l = m → x = y := fun e => by rw [hx, hy]; simp only [e]
        have HST := hide hstep
        have HAL := hide hall
        have he := fun (W : World) (hW : Below wr.heap.size wr W) => nodeq_any x y rfl rfl hkl W (hk.below hW) (hk'.below hW)
        obtain ⟨r, hr⟩ : ∃ r, r = decide (x = y) := ⟨_, rfl⟩
        rw [← hr] at he
        have HE := hide he
        have HR := hide hr
        subst hA; subst hB
        obtain ⟨xo, xp, xk⟩ := x
        obtain ⟨yo, yp, yk⟩ := y
        simp only at x0 x1 x2 y0 y1 y2 HE
        have hba := (Below.refl wr.heap.size wr).alloc (Nat.le_refl _) (.cells #[.int .u8 xo, .int .i64 xp, .slice K xk.length kc] 76 (0, 0))
        have z0 := (hba.cell (World.block_lt_of_cell? wr _ y0)).trans y0
        have z1 := (hba.cell (p := ⟨(bd.add (j * 3)).block, (bd.add (j * 3)).off + 1, none⟩) (World.block_lt_of_cell? wr _ y1)).trans y1
        have z2 := (hba.cell (p := ⟨(bd.add (j * 3)).block, (bd.add (j * 3)).off + 2, none⟩) (World.block_lt_of_cell? wr _ y2)).trans y2
        clear hx hy hk hk' hkl he hr hstep hall hba
        cases r
        all_goals go_wp2_with (go_at_call 75; refine (HE.out _ (by repeat (first | exact Below.refl _ _ | refine Below.alloc ?_ (by simp) _))).mono ?_; rintro e w2 ⟨rfl, hb2⟩; have HB2 := hide (below_then (below_then HB.out (by repeat (first | exact Below.refl _ _ | refine Below.alloc ?_ (by simp) _))) hb2); clear hb2)
        · go_ret
          have hne : l ≠ m := fun e => by
            have h1 := HR.out
            rw [decide_eq_true (HAL.out e)] at h1
            cases h1
          exact ⟨by simp [hne], HB2.out⟩
        · go_roundw
          case rel =>
            refine ⟨j + 1, by omega, by go_num, hide ?_, HB2.out⟩
            rw [HST.out.1, HST.out.2, HT.out, of_decide_eq_true HR.out.symm]
          case measure => simp [intOf]; omega
      · obtain rfl : j = n := by omega
        have hE : l = m := by
          have h1 := HT.out
          rwa [List.take_of_length_le (by rw [HN.out]; exact Nat.le_refl _), List.take_of_length_le (by rw [HN'.out]; exact Nat.le_refl _)] at h1
        have HEE := hide hE
        clear hE
        go_wp2
        go_ret
        exact ⟨by simp [HEE.out], HB.out⟩
  · have hne : l ≠ m := fun e => hnn (by rw [hn, hn', e])
    have e : decide (l = m) = false := decide_eq_false hne
    rw [e]
    have d : ((n : Int) != n') = true := by rw [bne_iff_ne]; omega
    clear e hne hnn h h' hn hn' hf
    go_enter Try.func74, Try.ntmps74
    go_wp2
    go_ret
    exact ⟨rfl, Below.refl _ _⟩
theorem same43_any {ok ok' : Nat → Prop} {A B : Option Addr} {n n' c c' : Nat} (l m : List Nd) (hn : n = l.length) (hn' : n' = m.length) (hl : n ≤ 100000) (hf : ∀ x ∈ l, x.kids.length ≤ 100000) (w : World) (h : Rds El.nd w ok (.slice A n c) l) (h' : Rds El.nd w ok' (.slice B n' c') m) :
    Calls Try.prog 43 #[.agg #[.slice A n c], .agg #[.slice B n' c']] w (SaysB (decide (l = m)) w) := by
  have he := fun (W : World) (hW : Below w.heap.size w W) => equalfunc_nd l m hn hn' hl hf W (h.below hW) (h'.below hW)
  obtain ⟨r, hr⟩ : ∃ r, r = decide (l = m) := ⟨_, rfl⟩
  rw [← hr] at he ⊢
  have HE := hide he
  clear he h h' hn hn' hl hf hr
  go_enter Try.func43, Try.ntmps43
  go_wp2_with (go_at_call 74; refine (HE.out _ (by repeat (first | exact Below.refl _ _ | refine Below.alloc ?_ (by simp) _))).mono ?_; rintro e w2 ⟨rfl, hb2⟩; have HB2 := hide (below_then (w := w) (by repeat (first | exact Below.refl _ _ | refine Below.alloc ?_ (by simp) _)) hb2); clear hb2)
  go_ret
  exact ⟨rfl, HB2.out⟩
end Go.Proofs.Ytbobjecjopmnfaa
