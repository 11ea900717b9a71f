/- The walk of StepsTrees. -/
import Derived.Test.YtbobjecjopmnfaaQ2
namespace Go.Proofs.Ytbobjecjopmnfaa
open Go.RowKit
open Pt (szL sz encL enc roots encL_length roots_length enc_length shift RT)
theorem take_next {rows : List (List Nd)} {i : Nat} {r : List Nd} (h : rows[i]? = some r) : rows.take (i + 1) = rows.take i ++ [r] := by
  obtain ⟨hi, rfl⟩ := List.getElem?_eq_some_iff.1 h
  rw [List.take_succ_eq_append_getElem hi]
theorem Tw.next {w W : World} {PB WB : Option Addr} {pc wc i : Nat} {rows : List (List Nd)} {r : List Nd} {q : Pt} {okq : Bool} (h : Tw w W PB (i + 1) pc (((rows.take i).map fun r => (ofT r).1) ++ [q]) WB (i + 1) wc (rows.take i ++ [r])) (hr : rows[i]? = some r) (hq : (q, okq) = ofT r) :
    Tw w W PB (i + 1) pc ((rows.take (i + 1)).map fun r => (ofT r).1) WB (i + 1) wc (rows.take (i + 1)) := by
  rw [take_next hr, List.map_append]
  have e : List.map (fun r => (ofT r).1) [r] = [q] := by simp [← hq]
  rw [e]
  exact h
set_option maxRecDepth 20000 in
set_option maxHeartbeats 16000000 in
theorem stepsTrees_any {okt : Nat → Prop} {A : Option Addr} {n c : Nat} (rows : List (List Nd)) (kind at_ : Int) (w : World) (hn : n = rows.length) (h : Rds (El.row El.nd) w okt (.slice A n c) rows) :
    Calls Try.prog 11 #[.slice A n c, .int .u8 kind, .int .i64 at_] w (SaysB true w) := by
  have H := hide (h.mono (ok' := fun b => okt b ∧ b < w.heap.size) (fun b h1 h2 => ⟨h1, h2⟩))
  have HN := hide hn
  clear hn h
  by_cases hn6 : n ≤ 6
  · go_enter Try.func11, Try.ntmps11
    go_wp2
    go_loopw [7, 8, 9, 10] (fun pv wv gv iv wr => ∃ (i : Nat) (PB : Option Addr) (pc : Nat) (WB : Option Addr) (wc : Nat), i ≤ n ∧ iv = .int .i64 i ∧ pv = .slice PB i pc ∧ wv = .slice WB i wc ∧ gv = .bool ((rows.take i).all rightB) ∧ Hid (∀ r ∈ rows.take i, Few22 r) ∧ Hid (Tw w wr PB i pc ((rows.take i).map fun r => (ofT r).1) WB i wc (rows.take i))) (fun _ _ _ i _ => n - (intOf i).toNat)
    case atStart => exact ⟨0, none, 0, none, 0, Nat.zero_le _, rfl, rfl, rfl, by simp, hide (fun r hr => by simp at hr), hide (by simpa using Tw.init w)⟩
    case round =>
      obtain ⟨i, PB, pc, WB, wc, hi, rfl, rfl, rfl, rfl, HF, T⟩ := hrel
      by_cases hlt : i < n
      · obtain ⟨r, hr⟩ : ∃ r, rows[i]? = some r := ⟨_, List.getElem?_eq_getElem (by rw [← HN.out]; exact hlt)⟩
        obtain ⟨ad, K, kc, hA, x0, hk⟩ := H.out.row_at (Below.refl _ _) hr
        obtain ⟨rn, hrn⟩ : ∃ rn, rn = r.length := ⟨_, rfl⟩
        rw [← hrn] at x0 hk
        have hcell := fun (W : World) (hB : Below w.heap.size w W) => (hB.cell (World.block_lt_of_cell? w _ x0)).trans x0
        have HX := hide hcell
        have HK := hide hk
        have HRN := hide hrn
        have HR := hide hr
        have hnx := take_all_next hr
        have HNX := hide hnx
        subst hA
        clear hr hk hrn x0 hcell hnx
        have x1 := HX.out _ T.out.hb
        go_wp2_with fail
        go_at_call 31
        refine (few22_b HRN.out HK.out _ T.out.hb).mono ?_
        rintro e w1 ⟨b, rfl, hbf, hb1⟩
        have T1 := hide (T.out.below hb1)
        have HB1 := hide hbf
        clear hb1 hbf x1
        have x1 := HX.out _ T1.out.hb
        cases b with
        | false =>
          go_wp2_with (go_at_call 32; refine (works22_at _ T1.out.hb).mono ?_; rintro e w9 ⟨rfl, hb9⟩; have HB9 := hide hb9; clear hb9)
          go_ret
          exact ⟨rfl, HB9.out⟩
        | true =>
          have hfew : Few22 r := HB1.out (by first | rfl | trivial)
          have hfit : Fits22 r := ⟨by have := hfew.1; omega, fun x hx => by have := hfew.2 x hx; omega⟩
          obtain ⟨⟨q, okq⟩, hq⟩ : ∃ q, q = ofT r := ⟨_, rfl⟩
          have hor : okq = rightB r := by rw [← (ofT_right r).1, ← hq]
          have HFIT := hide hfit
          have HFEW := hide hfew
          have HQ := hide hq
          have HOR := hide hor
          clear hfew hfit hq hor HB1
          go_wp2_with fail
          go_at_call 33
          have c33 : ∀ W, Below w.heap.size w W → Calls Try.prog 33 #[.agg #[.slice K rn kc]] W fun e w' => ∃ PA pc, e = .returned (.slice PA rn pc) ∧ Rds El.nd w' (fun b => W.heap.size ≤ b) (.slice PA rn pc) r ∧ Below W.heap.size W w' := fun W hB => by
            obtain rfl := HRN.out
            exact rowof_any r W (HK.out.below hB) HFIT.out
          have HC33 := hide c33
          clear c33
          refine (HC33.out _ T1.out.hb).mono ?_
          rintro e w2 ⟨RA, rc, rfl, hrl2, hb2⟩
          have T2 := hide (T1.out.below hb2)
          have HRL2 := hide hrl2
          clear hb2 hrl2 x1
          have x1 := HX.out _ T2.out.hb
          go_wp2_with fail
          go_at_call 34
          have c34 := of_any _ HRL2.out HRN.out HFIT.out
          rw [← HQ.out] at c34
          refine c34.mono ?_
          clear c34
          rintro e w3 ⟨QA, qc, he3, hq3, hb3⟩
          simp only at he3 hq3
          subst he3
          have T3 := hide (T2.out.below hb3)
          have HQ3 := hide hq3
          have HS23 := hide hb3.size
          clear hb3 hq3 x1
          have x1 := HX.out _ T3.out.hb
          have x2 := HX.out _ (T3.out.hb.alloc T3.out.hb.size (.cells #[.int .u8 q.op, .int .i64 q.pl, .slice QA q.kids.length qc] 65 (0, 0)))
          obtain ⟨gb, hgb⟩ : ∃ gb, gb = (rows.take i).all rightB := ⟨_, rfl⟩
          rw [← hgb] at HNX ⊢
          have HGB := hide hgb
          clear hgb
          have hpn : ∀ b, w2.heap.size ≤ b → w.heap.size ≤ b ∧ ¬ Fp (.slice WB i wc) b := fun b hb => ⟨Nat.le_trans T2.out.hb.size hb, fun hx => absurd (T2.out.wown.lt b hx) (Nat.not_lt.2 hb)⟩
          have hpp : ∀ b, w2.heap.size ≤ b → ¬ Fp (.slice PB i pc) b := fun b hb hx => absurd (T2.out.pown.lt b hx) (Nat.not_lt.2 hb)
          have HPN := hide hpn
          have HPP := hide hpp
          have HQX := hide (HQ3.out.mono (ok' := fun b => (w.heap.size ≤ b ∧ ¬ Fp (.slice WB i wc) b) ∧ ¬ Fp (.slice PB i pc) b) (fun b hb _ => ⟨hpn b hb, hpp b hb⟩))
          clear hpn hpp
          have hrt : ∀ W, Below w.heap.size w W → Calls Try.prog 41 #[.agg #[.slice K rn kc]] W (SaysB okq W) := fun W hB => by
            rw [HOR.out]
            obtain rfl := HRN.out
            exact (right_any r W (HK.out.below hB) HFIT.out).mono fun _ _ h => h
          have hsm : ∀ W, Below w.heap.size w W → Calls Try.prog 43 #[.agg #[.slice K rn kc], .agg #[.slice K rn kc]] W (SaysB true W) := fun W hB => by
            have e := same43_any r r HRN.out HRN.out (by have := HFIT.out.1; have := HRN.out; omega) (fun x hx => by have := HFIT.out.2 x hx; omega) W (HK.out.below hB) (HK.out.below hB)
            rwa [decide_eq_true rfl] at e
          have HRT := hide hrt
          have HSM := hide hsm
          clear hrt hsm
          have htn : okq = true → TN q := fun h => by
            have e := (ofT_right2 (l := r) (HOR.out.symm.trans h)).1
            rwa [← HQ.out] at e
          have hlo : okq = true → lenO q ≤ 60 := fun h => by
            have e := (ofT_right2 (l := r) (HOR.out.symm.trans h)).2
            rw [← HQ.out] at e
            have h1 := HFEW.out.1
            rw [e] at h1
            exact h1
          obtain ⟨rd, hrd⟩ : ∃ rd, rd = if okq = true then readyT 0 q else [] := ⟨_, rfl⟩
          obtain ⟨rl, hrl⟩ : ∃ rl, rl = rd.length := ⟨_, rfl⟩
          have h42 : ∀ W, Below w.heap.size w W → Calls Try.prog 42 #[.agg #[.slice K rn kc]] W fun e w' => ∃ R rc, e = .returned (.slice R rl rc) ∧ Rds El.int w' (fun _ => True) (.slice R rl rc) rd ∧ Below W.heap.size W w' := fun W hB => by
            have e := ready42_any r HRN.out W (HK.out.below hB) HFIT.out
            rw [← HOR.out, ← HQ.out] at e
            rw [hrl, hrd]
            refine e.mono ?_
            rintro e w' ⟨R, rc, rfl, h1, -, h2⟩
            exact ⟨R, rc, rfl, Rds.of_ints (h1.rd (ok := fun _ => True) (fun _ _ => trivial)), h2⟩
          have h35 : okq = true → ∀ (W : World) (ok : Nat → Prop) (QA : Option Addr) (qc : Nat), Rds El.pt W ok (.slice QA q.kids.length qc) q.kids → Calls Try.prog 35 #[.agg #[.int .u8 q.op, .int .i64 q.pl, .slice QA q.kids.length qc], .int .i64 0] W fun e w' => ∃ R rc, e = .returned (.slice R rl rc) ∧ Rds El.int w' (fun _ => True) (.slice R rl rc) rd ∧ Below W.heap.size W w' := fun h W ok QA qc hr => by
            rw [hrl, hrd, if_pos h]
            refine (rready_TN (htn h) (by have := hlo h; omega) W hr).mono ?_
            rintro e w' ⟨R, rc, rfl, h1, -, h2⟩
            exact ⟨R, rc, rfl, Rds.of_ints (h1.rd (ok := fun _ => True) (fun _ _ => trivial)), h2⟩
          have hnil : okq = false → rd = [] ∧ rl = 0 := fun h => by
            have h1 : rd = [] := by rw [hrd, h]; simp
            exact ⟨h1, by rw [hrl, h1]; rfl⟩
          have hbig : rl ≤ 100000 := by
            rw [hrl, hrd]
            split
            · rename_i h
              have h1 := readyT_len q 0
              have h2 := hlo h
              have : Pt.sz q ≤ 5000 := by
                rcases htn h with rfl | hs
                · decide
                · rw [← lenO_RT hs]; omega
              omega
            · simp
          have h44 : ∀ (W : World) (R : Option Addr) (rc : Nat) (R' : Option Addr) (rc' : Nat), Rds El.int W (fun _ => True) (.slice R rl rc) rd → Rds El.int W (fun _ => True) (.slice R' rl rc') rd → Calls Try.prog 44 #[.slice R rl rc, .slice R' rl rc'] W fun e w' => e = .returned (.bool true) ∧ ∃ n, w' = W.drewN n := fun W R rc R' rc' h1 h2 => sameints_y rd hrl hrl hbig W h1 h2
          have H42 := hide h42
          have H35 := hide h35
          have H44 := hide h44
          have HNIL := hide hnil
          clear h42 h35 h44 hnil hbig htn hlo hrd hrl
          cases gb <;> cases okq
          all_goals
            go_upto_region 14 with (at_builtin; go_loud (refine wpList_append_pt _ rfl (.tmp 50) (.tmp 52) rfl (fun b => w.heap.size ≤ b ∧ ¬ Fp (.slice WB i wc) b) PB i pc _ rfl T3.out.plen.symm (T3.out.pown.below (by repeat (first | exact Below.refl _ _ | refine Below.drew ?_ | refine below_drewN ?_ _ | refine Below.alloc ?_ (by simp <;> omega) _))) _ q QA qc rfl (blk_new (by simp)) (HQX.out.below (by repeat (first | exact Below.refl _ _ | refine Below.drew ?_ | refine below_drewN ?_ _ | refine Below.alloc ?_ (by simp <;> omega) _))) (fun b hb => HPN.out b (Nat.le_trans HS23.out (Nat.le_trans (by simp <;> omega) hb))) (by omega) ?_); intro PB4 pc4 w4 hown4 honly4 hfp4; have T4 := hide ((T3.out.below (by repeat (first | exact Below.refl _ _ | refine Below.drew ?_ | refine below_drewN ?_ _ | refine Below.alloc ?_ (by simp <;> omega) _))).part honly4 hown4 hfp4); have HQ4 := hide ((HQX.out.below (by repeat (first | exact Below.refl _ _ | refine Below.drew ?_ | refine below_drewN ?_ _ | refine Below.alloc ?_ (by simp <;> omega) _))).move (fun b hb hlt => honly4.block b hlt hb.2)); have BX4 := hide (box_only (blk_alloc (heap_alloc_new w3 (.cells #[.int .u8 q.op, .int .i64 q.pl, .slice QA q.kids.length qc] 65 (0, 0))) _) honly4 (fun hx => Nat.lt_irrefl _ (T3.out.pown.lt _ hx))); clear hown4 honly4 hfp4)
            have x4 := HX.out _ T4.out.hb
            have hpw : ∀ b, w4.heap.size ≤ b → (w.heap.size ≤ b ∧ ¬ Fp (.slice PB4 (i + 1) pc4) b) ∧ ¬ Fp (.slice WB i wc) b := fun b hb => ⟨⟨Nat.le_trans T4.out.hb.size hb, fun hx => absurd (T4.out.pown.lt b hx) (Nat.not_lt.2 hb)⟩, fun hx => absurd (T4.out.wown.lt b hx) (Nat.not_lt.2 hb)⟩
            have HPW := hide hpw
            clear hpw
            go_upto_region 15 with (first | (go_at_call 33; refine (HC33.out _ T4.out.hb).mono ?_; rintro e w5 ⟨RB, rbc, rfl, hrl5, hb5⟩; have T5 := hide (T4.out.below hb5); have HRL5 := hide (hrl5.mono (fun b hb _ => HPW.out b hb)); have HQ5 := hide (HQ4.out.below hb5); have BX5 := hide (box_same BX4.out hb5); have HS45 := hide hb5.size; clear hb5 hrl5) | (at_builtin; go_loud (refine wpList_append_was _ rfl (.tmp 54) (.tmp 60) rfl (fun b => w.heap.size ≤ b ∧ ¬ Fp (.slice PB4 (i + 1) pc4) b) WB i wc (rows.take i) rfl T5.out.wlen.symm (T5.out.wown.below (by repeat (first | exact Below.refl _ _ | refine Below.drew ?_ | refine below_drewN ?_ _ | refine Below.alloc ?_ (by simp <;> omega) _))) _ RB rn rbc r HRN.out.symm rfl (blk_new (by rfl)) (HRL5.out.below (by repeat (first | exact Below.refl _ _ | refine Below.drew ?_ | refine below_drewN ?_ _ | refine Below.alloc ?_ (by simp <;> omega) _))) (fun b hb => (HPW.out b (Nat.le_trans HS45.out (Nat.le_trans (by simp <;> omega) hb))).1) (by omega) ?_); intro WB6 wc6 w6 hown6 honly6 hfp6; have T6 := hide ((T5.out.below (by repeat (first | exact Below.refl _ _ | refine Below.drew ?_ | refine below_drewN ?_ _ | refine Below.alloc ?_ (by simp <;> omega) _))).was honly6 hown6 hfp6); have HQ6 := hide ((HQ5.out.below (by repeat (first | exact Below.refl _ _ | refine Below.drew ?_ | refine below_drewN ?_ _ | refine Below.alloc ?_ (by simp <;> omega) _))).move (fun b hb hlt => honly6.block b hlt hb.1.2)); have BX6 := hide (box_only (box_same BX5.out (by repeat (first | exact Below.refl _ _ | refine Below.drew ?_ | refine below_drewN ?_ _ | refine Below.alloc ?_ (by simp <;> omega) _))) honly6 (fun hx => by have h1 := T3.out.wown.lt _ hx; omega)); clear hown6 honly6 hfp6))
            have x6 := HX.out _ T6.out.hb
            go_region_held3 (fun w' => w'.cell? (ad.add i) = some (.slice K rn kc)) (first | exact HX.out _ T8.out.hb | exact HX.out _ T7.out.hb | exact HX.out _ T6.out.hb | go_keep | assumption) (first | (go_simp; go_at_call 41; refine (HRT.out _ (T6.out.below (by repeat (first | exact Below.refl _ _ | refine Below.drew ?_ | refine below_drewN ?_ _ | refine Below.alloc ?_ (by simp <;> omega) _))).hb).mono ?_; rintro e w7 ⟨rfl, hb7⟩; have T7 := hide ((T6.out.below (by repeat (first | exact Below.refl _ _ | refine Below.drew ?_ | refine below_drewN ?_ _ | refine Below.alloc ?_ (by simp <;> omega) _))).below hb7); have HQ7 := hide ((HQ6.out.below (by repeat (first | exact Below.refl _ _ | refine Below.drew ?_ | refine below_drewN ?_ _ | refine Below.alloc ?_ (by simp <;> omega) _))).below hb7); have BX7 := hide (box_same (box_same BX6.out (by repeat (first | exact Below.refl _ _ | refine Below.drew ?_ | refine below_drewN ?_ _ | refine Below.alloc ?_ (by simp <;> omega) _))) hb7); clear hb7) | (go_simp; go_at_call 43; refine (HSM.out _ (T7.out.below (by repeat (first | exact Below.refl _ _ | refine Below.drew ?_ | refine below_drewN ?_ _ | refine Below.alloc ?_ (by simp <;> omega) _))).hb).mono ?_; rintro e w8 ⟨rfl, hb8⟩; have T8 := hide ((T7.out.below (by repeat (first | exact Below.refl _ _ | refine Below.drew ?_ | refine below_drewN ?_ _ | refine Below.alloc ?_ (by simp <;> omega) _))).below hb8); have HQ8 := hide ((HQ7.out.below (by repeat (first | exact Below.refl _ _ | refine Below.drew ?_ | refine below_drewN ?_ _ | refine Below.alloc ?_ (by simp <;> omega) _))).below hb8); have BX8 := hide (box_same (box_same BX7.out (by repeat (first | exact Below.refl _ _ | refine Below.drew ?_ | refine below_drewN ?_ _ | refine Below.alloc ?_ (by simp <;> omega) _))) hb8); clear hb8))
            try (have t0 := blk_cell BX8.out 0)
            try (have t1 := blk_cell BX8.out 1)
            try (have t2 := blk_cell BX8.out 2)
            try (have tl := blk_lt BX8.out)
            try (simp at t0 t1 t2)
            have x8 := HX.out _ T8.out.hb
          · obtain ⟨rfl, rfl⟩ := HNIL.out (by first | rfl | trivial)
            go_wp2_with fail
            go_at_call 42
            refine (H42.out _ (T8.out.below (by repeat (first | exact Below.refl _ _ | refine Below.drew ?_ | refine below_drewN ?_ _ | refine Below.alloc ?_ (by simp <;> omega) _))).hb).mono ?_
            rintro e w9 ⟨R, rc, rfl, hr9, hb9⟩
            have TB9 := hide ((T8.out.below (by repeat (first | exact Below.refl _ _ | refine Below.drew ?_ | refine below_drewN ?_ _ | refine Below.alloc ?_ (by simp <;> omega) _))).below hb9)
            have HR9 := hide hr9
            clear hr9 hb9
            go_wp2_with fail
            go_at_call 44
            refine (H44.out _ _ _ _ _ (HR9.out.below (by repeat (first | exact Below.refl _ _ | refine Below.drew ?_ | refine below_drewN ?_ _ | refine Below.alloc ?_ (by simp <;> omega) _))) Rds.nil).mono ?_
            rintro e wa ⟨rfl, hda⟩
            have TA := hide ((TB9.out.below (by repeat (first | exact Below.refl _ _ | refine Below.drew ?_ | refine below_drewN ?_ _ | refine Below.alloc ?_ (by simp <;> omega) _))).below (drewn_below hda))
            clear hda
            go_wp2
            go_roundw
            case rel =>
              refine ⟨i + 1, PB4, pc4, WB6, wc6, by omega, by go_num, rfl, rfl, ?_, hide ?_, hide (TA.out.next HR.out HQ.out)⟩
              · rw [HNX.out, ← HOR.out]; rfl
              · intro r' hr'
                rw [take_next HR.out, List.mem_append, List.mem_singleton] at hr'
                rcases hr' with h1 | rfl
                · exact HF.out r' h1
                · exact HFEW.out
            case measure => simp [intOf]; omega
          · go_wp2_with fail
            go_at_call 35
            refine (H35.out (by first | rfl | trivial) _ _ _ _ (HQ8.out.below (by repeat (first | exact Below.refl _ _ | refine Below.drew ?_ | refine below_drewN ?_ _ | refine Below.alloc ?_ (by simp <;> omega) _)))).mono ?_
            rintro e w9 ⟨R, rc, rfl, hr9, hb9⟩
            have TB9 := hide ((T8.out.below (by repeat (first | exact Below.refl _ _ | refine Below.drew ?_ | refine below_drewN ?_ _ | refine Below.alloc ?_ (by simp <;> omega) _))).below hb9)
            have HR9 := hide hr9
            have x9 := HX.out _ TB9.out.hb
            clear hr9 hb9 x8
            go_wp2_with fail
            go_at_call 42
            refine (H42.out _ (TB9.out.below (by repeat (first | exact Below.refl _ _ | refine Below.drew ?_ | refine below_drewN ?_ _ | refine Below.alloc ?_ (by simp <;> omega) _))).hb).mono ?_
            rintro e wb ⟨R', rc', rfl, hrb, hbb⟩
            have TBB := hide ((TB9.out.below (by repeat (first | exact Below.refl _ _ | refine Below.drew ?_ | refine below_drewN ?_ _ | refine Below.alloc ?_ (by simp <;> omega) _))).below hbb)
            have HRB := hide hrb
            have HR9b := hide ((HR9.out.below (by repeat (first | exact Below.refl _ _ | refine Below.drew ?_ | refine below_drewN ?_ _ | refine Below.alloc ?_ (by simp <;> omega) _))).below hbb)
            clear hrb hbb
            go_wp2_with fail
            go_at_call 44
            refine (H44.out _ _ _ _ _ (HRB.out.below (by repeat (first | exact Below.refl _ _ | refine Below.drew ?_ | refine below_drewN ?_ _ | refine Below.alloc ?_ (by simp <;> omega) _))) (HR9b.out.below (by repeat (first | exact Below.refl _ _ | refine Below.drew ?_ | refine below_drewN ?_ _ | refine Below.alloc ?_ (by simp <;> omega) _)))).mono ?_
            rintro e wa ⟨rfl, hda⟩
            have TA := hide ((TBB.out.below (by repeat (first | exact Below.refl _ _ | refine Below.drew ?_ | refine below_drewN ?_ _ | refine Below.alloc ?_ (by simp <;> omega) _))).below (drewn_below hda))
            clear hda
            go_wp2
            go_roundw
            case rel =>
              refine ⟨i + 1, PB4, pc4, WB6, wc6, by omega, by go_num, rfl, rfl, ?_, hide ?_, hide (TA.out.next HR.out HQ.out)⟩
              · rw [HNX.out, ← HOR.out]; rfl
              · intro r' hr'
                rw [take_next HR.out, List.mem_append, List.mem_singleton] at hr'
                rcases hr' with h1 | rfl
                · exact HF.out r' h1
                · exact HFEW.out
            case measure => simp [intOf]; omega
          · obtain ⟨rfl, rfl⟩ := HNIL.out (by first | rfl | trivial)
            go_wp2_with fail
            go_at_call 42
            refine (H42.out _ (T8.out.below (by repeat (first | exact Below.refl _ _ | refine Below.drew ?_ | refine below_drewN ?_ _ | refine Below.alloc ?_ (by simp <;> omega) _))).hb).mono ?_
            rintro e w9 ⟨R, rc, rfl, hr9, hb9⟩
            have TB9 := hide ((T8.out.below (by repeat (first | exact Below.refl _ _ | refine Below.drew ?_ | refine below_drewN ?_ _ | refine Below.alloc ?_ (by simp <;> omega) _))).below hb9)
            have HR9 := hide hr9
            clear hr9 hb9
            go_wp2_with fail
            go_at_call 44
            refine (H44.out _ _ _ _ _ (HR9.out.below (by repeat (first | exact Below.refl _ _ | refine Below.drew ?_ | refine below_drewN ?_ _ | refine Below.alloc ?_ (by simp <;> omega) _))) Rds.nil).mono ?_
            rintro e wa ⟨rfl, hda⟩
            have TA := hide ((TB9.out.below (by repeat (first | exact Below.refl _ _ | refine Below.drew ?_ | refine below_drewN ?_ _ | refine Below.alloc ?_ (by simp <;> omega) _))).below (drewn_below hda))
            clear hda
            go_wp2
            go_roundw
            case rel =>
              refine ⟨i + 1, PB4, pc4, WB6, wc6, by omega, by go_num, rfl, rfl, ?_, hide ?_, hide (TA.out.next HR.out HQ.out)⟩
              · rw [HNX.out, ← HOR.out]; rfl
              · intro r' hr'
                rw [take_next HR.out, List.mem_append, List.mem_singleton] at hr'
                rcases hr' with h1 | rfl
                · exact HF.out r' h1
                · exact HFEW.out
            case measure => simp [intOf]; omega
          · go_wp2_with fail
            go_at_call 35
            refine (H35.out (by first | rfl | trivial) _ _ _ _ (HQ8.out.below (by repeat (first | exact Below.refl _ _ | refine Below.drew ?_ | refine below_drewN ?_ _ | refine Below.alloc ?_ (by simp <;> omega) _)))).mono ?_
            rintro e w9 ⟨R, rc, rfl, hr9, hb9⟩
            have TB9 := hide ((T8.out.below (by repeat (first | exact Below.refl _ _ | refine Below.drew ?_ | refine below_drewN ?_ _ | refine Below.alloc ?_ (by simp <;> omega) _))).below hb9)
            have HR9 := hide hr9
            have x9 := HX.out _ TB9.out.hb
            clear hr9 hb9 x8
            go_wp2_with fail
            go_at_call 42
            refine (H42.out _ (TB9.out.below (by repeat (first | exact Below.refl _ _ | refine Below.drew ?_ | refine below_drewN ?_ _ | refine Below.alloc ?_ (by simp <;> omega) _))).hb).mono ?_
            rintro e wb ⟨R', rc', rfl, hrb, hbb⟩
            have TBB := hide ((TB9.out.below (by repeat (first | exact Below.refl _ _ | refine Below.drew ?_ | refine below_drewN ?_ _ | refine Below.alloc ?_ (by simp <;> omega) _))).below hbb)
            have HRB := hide hrb
            have HR9b := hide ((HR9.out.below (by repeat (first | exact Below.refl _ _ | refine Below.drew ?_ | refine below_drewN ?_ _ | refine Below.alloc ?_ (by simp <;> omega) _))).below hbb)
            clear hrb hbb
            go_wp2_with fail
            go_at_call 44
            refine (H44.out _ _ _ _ _ (HRB.out.below (by repeat (first | exact Below.refl _ _ | refine Below.drew ?_ | refine below_drewN ?_ _ | refine Below.alloc ?_ (by simp <;> omega) _))) (HR9b.out.below (by repeat (first | exact Below.refl _ _ | refine Below.drew ?_ | refine below_drewN ?_ _ | refine Below.alloc ?_ (by simp <;> omega) _)))).mono ?_
            rintro e wa ⟨rfl, hda⟩
            have TA := hide ((TBB.out.below (by repeat (first | exact Below.refl _ _ | refine Below.drew ?_ | refine below_drewN ?_ _ | refine Below.alloc ?_ (by simp <;> omega) _))).below (drewn_below hda))
            clear hda
            go_wp2
            go_roundw
            case rel =>
              refine ⟨i + 1, PB4, pc4, WB6, wc6, by omega, by go_num, rfl, rfl, ?_, hide ?_, hide (TA.out.next HR.out HQ.out)⟩
              · rw [HNX.out, ← HOR.out]; rfl
              · intro r' hr'
                rw [take_next HR.out, List.mem_append, List.mem_singleton] at hr'
                rcases hr' with h1 | rfl
                · exact HF.out r' h1
                · exact HFEW.out
            case measure => simp [intOf]; omega
      · have hin : n = i := by omega
        subst hin
        have e0 : rows.take n = rows := List.take_of_length_le (by rw [HN.out]; exact Nat.le_refl _)
        rw [e0] at HF T ⊢
        obtain ⟨gb, hgb⟩ : ∃ gb, gb = rows.all rightB := ⟨_, rfl⟩
        obtain ⟨ps, hps⟩ : ∃ ps, ps = rows.map fun r => (ofT r).1 := ⟨_, rfl⟩
        obtain ⟨d, a1, a2, a3, m1, m2, m3, p1, p2, p3, htl⟩ := tail_of rows kind at_ HN.out hn6 HF.out H.out hps hgb
        rw [← hgb]
        rw [← hps] at T
        have TL := hide htl
        clear hgb hps htl e0
        go_upto_if 92 with fail
        go_cut [14, 15] (fun av bv wx => ∃ (A1 : Option Addr) (c1 : Nat) (A2 : Option Addr) (c2 : Nat), av = .slice A1 m1 c1 ∧ bv = .slice A2 m2 c2 ∧ Hid (Rds El.nd wx (fun _ => True) (.slice A1 m1 c1) a1) ∧ Hid (Rds El.nd wx (fun _ => True) (.slice A2 m2 c2) a2) ∧ Hid (Below wr.heap.size wr wx))
        case first =>
          cases gb with
          | false =>
            obtain ⟨h1, h2, h3, h4⟩ := TL.out.nil rfl
            subst h1; subst h2; subst h3; subst h4
            go_wp2
            go_meet
            case rel => exact ⟨none, 0, none, 0, rfl, rfl, hide Rds.nil, hide Rds.nil, hide (Below.refl _ _)⟩
          | true =>
            go_wp2_with fail
            go_at_call 45
            refine (TL.out.put1 rfl _ _ _ _ (T.out.pown.rds.mono (ok' := fun _ => True) (fun _ _ _ => trivial))).mono ?_
            rintro e w1 ⟨K1, k1, rfl, hp1, hb1⟩
            have HP1 := hide hp1
            have HB1 := hide hb1
            clear hp1 hb1
            go_wp2_with fail
            go_at_call 36
            refine (TL.out.row1 rfl _ _ _ _ HP1.out).mono ?_
            rintro e w2 ⟨A1, c1, rfl, hr1, hb2⟩
            have HR1 := hide (hr1.mono (ok' := fun _ => True) (fun _ _ _ => trivial))
            have HB2 := hide (below_then HB1.out hb2)
            clear hr1 hb2
            go_wp2_with fail
            go_at_call 45
            refine (TL.out.put2 rfl _ _ _ _ ((T.out.pown.rds.mono (ok' := fun _ => True) (fun _ _ _ => trivial)).below HB2.out)).mono ?_
            rintro e w3 ⟨K2, k2, rfl, hp2, hb3⟩
            have HP2 := hide hp2
            have HR2 := hide (HR1.out.below hb3)
            have HB3 := hide (below_then HB2.out hb3)
            clear hp2 hb3
            go_wp2_with fail
            go_at_call 36
            refine (TL.out.row2 rfl _ _ _ _ HP2.out).mono ?_
            rintro e w4 ⟨A2, c2, rfl, hr4, hb4⟩
            have HR3 := hide (HR2.out.below hb4)
            have HR4 := hide (hr4.mono (ok' := fun _ => True) (fun _ _ _ => trivial))
            have HB4 := hide (below_then HB3.out hb4)
            clear hr4 hb4
            go_wp2
            go_meet
            case rel => exact ⟨A1, c1, A2, c2, rfl, rfl, HR3.out, HR4.out, HB4.out⟩
        case rest =>
          obtain ⟨A1, c1, A2, c2, rfl, rfl, HA1, HA2, HB0⟩ := hcut
          have T0 := hide (T.out.below HB0.out)
          go_wp2_with fail
          go_at_call 46
          refine (TL.out.ino _ T0.out.hb).mono ?_
          rintro e w1 ⟨X, xc, rfl, hx1, hb1⟩
          have T1 := hide (T0.out.below hb1)
          have HX1 := hide (hx1.mono (ok' := fun b => wc.heap.size ≤ b ∧ b < w1.heap.size) (fun b h1 h2 => ⟨h1, h2⟩))
          have HB1 := hide hb1
          clear hx1 hb1
          go_wp2_with fail
          go_at_call 47
          refine (TL.out.bes _ T1.out.hb).mono ?_
          rintro e w2 ⟨Y, yc, rfl, hy2, hb2⟩
          have HX2 := hide (HX1.out.below hb2)
          have HY2 := hide hy2
          have HB2 := hide (below_then HB1.out hb2)
          have HS2 := hide hb2.size
          clear hy2 hb2
          go_wp2_with fail
          go_at_call 48
          refine (TL.out.lf _).mono ?_
          rintro e w3 ⟨Z, zc, rfl, hz3, hb3⟩
          have HX3 := hide (HX2.out.below hb3)
          have HY3 := hide (HY2.out.below hb3)
          have HZ3 := hide hz3
          have HB3 := hide (below_then HB2.out hb3)
          have HS3 := hide (Nat.le_trans HS2.out hb3.size)
          clear hz3 hb3
          go_upto_region 27 with fail
          obtain ⟨w4, hw4⟩ : ∃ w4, w4 = (((w3.alloc (.cells #[.slice X m1 xc] 59)).alloc (.cells #[.slice Y m2 yc] 59)).alloc (.cells #[.slice Z m3 zc] 59)) := ⟨_, rfl⟩
          have hb4 : Below w3.heap.size w3 w4 := by rw [hw4]; exact (((Below.refl _ _).alloc (Nat.le_refl _) _).alloc (by simp) _).alloc (by simp <;> omega) _
          have bx4 : w4.heap[w3.heap.size]? = some (.cells #[.slice X m1 xc] 59 (0, 0)) := by rw [hw4]; exact blk_alloc (blk_alloc (blk_new (by simp)) _) _
          have by4 : w4.heap[w3.heap.size + 1]? = some (.cells #[.slice Y m2 yc] 59 (0, 0)) := by rw [hw4]; exact blk_alloc (blk_new (by simp)) _
          have bz4 : w4.heap[w3.heap.size + 1 + 1]? = some (.cells #[.slice Z m3 zc] 59 (0, 0)) := by rw [hw4]; exact blk_new (by simp)
          rw [← hw4]
          have hkx : ∀ W, Below w4.heap.size w4 W → W.cell? ⟨w3.heap.size, 0, none⟩ = some (.slice X m1 xc) ∧ W.cell? ⟨w3.heap.size + 1, 0, none⟩ = some (.slice Y m2 yc) ∧ W.cell? ⟨w3.heap.size + 1 + 1, 0, none⟩ = some (.slice Z m3 zc) := fun W hB => by
            have h1 := blk_cell (box_same bx4 hB) 0
            have h2 := blk_cell (box_same by4 hB) 0
            have h3 := blk_cell (box_same bz4 hB) 0
            simp at h1 h2 h3
            exact ⟨h1, h2, h3⟩
          have HKX := hide hkx
          have BY4 := hide by4
          have HX4 := hide (HX3.out.below hb4)
          have HY4 := hide (HY3.out.below hb4)
          have RX4 := hide ((HX4.out.rds.to_nd).mono (ok' := fun _ => True) (fun _ _ _ => trivial))
          have RY4 := hide ((HY4.out.rds.to_nd).mono (ok' := fun _ => True) (fun _ _ _ => trivial))
          have RZ4 := hide (((HZ3.out.below hb4).rds.to_nd).mono (ok' := fun _ => True) (fun _ _ _ => trivial))
          have HB4 := hide (below_then HB3.out hb4)
          have RA4 := hide (HA1.out.below HB4.out)
          have RB4 := hide (HA2.out.below HB4.out)
          have HS1 := hide HB1.out.size
          have HBW := hide (Below.refl w4.heap.size w4)
          obtain ⟨k0, k1, k2⟩ := HKX.out _ HBW.out
          clear hw4 hb4 bx4 by4 bz4 hkx HX1 HX2 HX3 HY2 HY3 HZ3 HB1 HB2 HB3 HA1 HA2 T1
          go_region_held3 (fun w' => w'.cell? ⟨w3.heap.size, 0, none⟩ = some (.slice X m1 xc) ∧ w'.cell? ⟨w3.heap.size + 1, 0, none⟩ = some (.slice Y m2 yc) ∧ w'.cell? ⟨w3.heap.size + 1 + 1, 0, none⟩ = some (.slice Z m3 zc)) (first | exact HKX.out _ HBW.out | exact HKX.out _ (below_then HBW.out (by repeat (first | exact Below.refl _ _ | refine Below.drew ?_ | refine below_drewN ?_ _ | refine Below.alloc ?_ (by simp <;> omega) _))) | go_keep | assumption) (first | (go_simp; go_at_call 43; (with_reducible show Calls _ 43 #[.agg #[.slice X m1 xc], .agg #[.slice Y m2 yc]] _ _); refine (TL.out.sm _ _ _ _ _ _ _ (RX4.out.below (below_then HBW.out (by repeat (first | exact Below.refl _ _ | refine Below.drew ?_ | refine below_drewN ?_ _ | refine Below.alloc ?_ (by simp <;> omega) _)))) (RY4.out.below (below_then HBW.out (by repeat (first | exact Below.refl _ _ | refine Below.drew ?_ | refine below_drewN ?_ _ | refine Below.alloc ?_ (by simp <;> omega) _))))).mono ?_; rintro e wn ⟨rfl, hbn⟩; have HBW := hide (below_then (below_then HBW.out (by repeat (first | exact Below.refl _ _ | refine Below.drew ?_ | refine below_drewN ?_ _ | refine Below.alloc ?_ (by simp <;> omega) _))) hbn); clear hbn) | (go_simp; go_at_call 49; refine (TL.out.rlf _).mono ?_; rintro e wn ⟨rfl, hbn⟩; have HBW := hide (below_then (below_then HBW.out (by repeat (first | exact Below.refl _ _ | refine Below.drew ?_ | refine below_drewN ?_ _ | refine Below.alloc ?_ (by simp <;> omega) _))) hbn); clear hbn) | (go_simp; go_at_call 36; refine (TL.out.row3 _).mono ?_; rintro e wn ⟨ZA, zac, rfl, hza, hbn⟩; have HZA := hide (hza.mono (ok' := fun _ => True) (fun _ _ _ => trivial)); have HBW := hide (below_then (below_then HBW.out (by repeat (first | exact Below.refl _ _ | refine Below.drew ?_ | refine below_drewN ?_ _ | refine Below.alloc ?_ (by simp <;> omega) _))) hbn); clear hza hbn) | (go_simp; go_at_call 39; (with_reducible show Calls _ 39 #[.agg #[.slice X m1 xc], .slice A1 m1 c1] _ _); refine (TL.out.is1 _ _ _ _ _ _ _ (RX4.out.below (below_then HBW.out (by repeat (first | exact Below.refl _ _ | refine Below.drew ?_ | refine below_drewN ?_ _ | refine Below.alloc ?_ (by simp <;> omega) _)))) (RA4.out.below (below_then HBW.out (by repeat (first | exact Below.refl _ _ | refine Below.drew ?_ | refine below_drewN ?_ _ | refine Below.alloc ?_ (by simp <;> omega) _))))).mono ?_; rintro e wn ⟨rfl, hbn⟩; have HBW := hide (below_then (below_then HBW.out (by repeat (first | exact Below.refl _ _ | refine Below.drew ?_ | refine below_drewN ?_ _ | refine Below.alloc ?_ (by simp <;> omega) _))) hbn); clear hbn) | (go_simp; go_at_call 39; (with_reducible show Calls _ 39 #[.agg #[.slice Y m2 yc], .slice A2 m2 c2] _ _); refine (TL.out.is2 _ _ _ _ _ _ _ (RY4.out.below (below_then HBW.out (by repeat (first | exact Below.refl _ _ | refine Below.drew ?_ | refine below_drewN ?_ _ | refine Below.alloc ?_ (by simp <;> omega) _)))) (RB4.out.below (below_then HBW.out (by repeat (first | exact Below.refl _ _ | refine Below.drew ?_ | refine below_drewN ?_ _ | refine Below.alloc ?_ (by simp <;> omega) _))))).mono ?_; rintro e wn ⟨rfl, hbn⟩; have HBW := hide (below_then (below_then HBW.out (by repeat (first | exact Below.refl _ _ | refine Below.drew ?_ | refine below_drewN ?_ _ | refine Below.alloc ?_ (by simp <;> omega) _))) hbn); clear hbn) | (go_simp; go_at_call 39; (with_reducible show Calls _ 39 #[.agg #[.slice X m1 xc], .slice A2 m2 c2] _ _); refine (TL.out.isx _ _ _ _ _ _ _ (RX4.out.below (below_then HBW.out (by repeat (first | exact Below.refl _ _ | refine Below.drew ?_ | refine below_drewN ?_ _ | refine Below.alloc ?_ (by simp <;> omega) _)))) (RB4.out.below (below_then HBW.out (by repeat (first | exact Below.refl _ _ | refine Below.drew ?_ | refine below_drewN ?_ _ | refine Below.alloc ?_ (by simp <;> omega) _))))).mono ?_; rintro e wn ⟨rfl, hbn⟩; have HBW := hide (below_then (below_then HBW.out (by repeat (first | exact Below.refl _ _ | refine Below.drew ?_ | refine below_drewN ?_ _ | refine Below.alloc ?_ (by simp <;> omega) _))) hbn); clear hbn) | (go_simp; go_at_call 39; refine (TL.out.is3 _ _ _ _ _ _ _ (RZ4.out.below (below_then HBW.out (by repeat (first | exact Below.refl _ _ | refine Below.drew ?_ | refine below_drewN ?_ _ | refine Below.alloc ?_ (by simp <;> omega) _)))) (HZA.out.below (by repeat (first | exact Below.refl _ _ | refine Below.drew ?_ | refine below_drewN ?_ _ | refine Below.alloc ?_ (by simp <;> omega) _)))).mono ?_; rintro e wn ⟨rfl, hbn⟩; have HBW := hide (below_then (below_then HBW.out (by repeat (first | exact Below.refl _ _ | refine Below.drew ?_ | refine below_drewN ?_ _ | refine Below.alloc ?_ (by simp <;> omega) _))) hbn); clear hbn))
          clear k0 k1 k2
          obtain ⟨k0, k1, k2⟩ := HKX.out _ HBW.out
          go_wp2_with fail
          go_at_call 40
          refine (spoil_only (HX4.out.below (below_then HBW.out (by repeat (first | exact Below.refl _ _ | refine Below.drew ?_ | refine below_drewN ?_ _ | refine Below.alloc ?_ (by simp <;> omega) _)))) TL.out.hm1 TL.out.hf1).mono ?_
          rintro e w5 ⟨rfl, ho5⟩
          have HY5 := hide ((HY4.out.below (below_then HBW.out (by repeat (first | exact Below.refl _ _ | refine Below.drew ?_ | refine below_drewN ?_ _ | refine Below.alloc ?_ (by simp <;> omega) _)))).only ho5 (fun b h1 h2 => absurd h2.2 (Nat.not_lt.2 h1)))
          have BY5 := hide (box_only (box_same BY4.out (below_then HBW.out (by repeat (first | exact Below.refl _ _ | refine Below.drew ?_ | refine below_drewN ?_ _ | refine Below.alloc ?_ (by simp <;> omega) _)))) ho5 (fun h2 => by have h1 := h2.2; have h3 := HS3.out; omega))
          have HB5 := hide ((below_then HB4.out (below_then HBW.out (by repeat (first | exact Below.refl _ _ | refine Below.drew ?_ | refine below_drewN ?_ _ | refine Below.alloc ?_ (by simp <;> omega) _)))).trans (ho5.below (fun b hb => hb.1) (below_then HB4.out (below_then HBW.out (by repeat (first | exact Below.refl _ _ | refine Below.drew ?_ | refine below_drewN ?_ _ | refine Below.alloc ?_ (by simp <;> omega) _)))).size))
          clear ho5 k0 k1 k2
          have k1 := blk_cell BY5.out 0
          simp at k1
          go_wp2_with fail
          go_at_call 40
          refine (spoil_only (HY5.out.below (by repeat (first | exact Below.refl _ _ | refine Below.drew ?_ | refine below_drewN ?_ _ | refine Below.alloc ?_ (by simp <;> omega) _))) TL.out.hm2 TL.out.hf2).mono ?_
          rintro e w6 ⟨rfl, ho6⟩
          have HB6 := hide ((below_then HB5.out (by repeat (first | exact Below.refl _ _ | refine Below.drew ?_ | refine below_drewN ?_ _ | refine Below.alloc ?_ (by simp <;> omega) _))).trans (ho6.below (fun b hb => Nat.le_trans HS1.out hb) (below_then HB5.out (by repeat (first | exact Below.refl _ _ | refine Below.drew ?_ | refine below_drewN ?_ _ | refine Below.alloc ?_ (by simp <;> omega) _))).size))
          have T6 := hide (T0.out.below HB6.out)
          clear ho6 k1
          go_wp2
          go_loopw [19] (fun iv wx => ∃ i : Nat, i ≤ n ∧ iv = .int .i64 i ∧ Hid (Below w6.heap.size w6 wx)) (fun i _ => n - (intOf i).toNat)
          case atStart => exact ⟨0, Nat.zero_le _, rfl, hide (by repeat (first | exact Below.refl _ _ | refine Below.drew ?_ | refine below_drewN ?_ _ | refine Below.alloc ?_ (by simp <;> omega) _))⟩
          case round =>
            obtain ⟨wv, rfl⟩ : ∃ wv : World, wv = wr := ⟨_, rfl⟩
            obtain ⟨i, hi, rfl, HBX⟩ := hrel
            have T7 := hide (T6.out.below HBX.out)
            by_cases hlt : i < n
            · obtain ⟨r, hr⟩ : ∃ r, rows[i]? = some r := ⟨_, List.getElem?_eq_getElem (by rw [← HN.out]; exact hlt)⟩
              obtain ⟨ad, K, kc, hA, x0, hk⟩ := H.out.row_at T7.out.hb hr
              obtain ⟨bd, K', kc', hB, y0, hk'⟩ := T7.out.wown.rds.row_at (Below.refl _ _) hr
              obtain ⟨rn, hrn⟩ : ∃ rn, rn = r.length := ⟨_, rfl⟩
              rw [← hrn] at x0 y0 hk hk'
              have hfew := HF.out r (List.mem_of_getElem? hr)
              have c39 : ∀ W, Below wv.heap.size wv W → Calls Try.prog 39 #[.agg #[.slice K rn kc], .slice K' rn kc'] W (SaysB true W) := fun W hW => is_call hrn hrn ⟨by have := hfew.1; omega, fun x hx => by have := hfew.2 x hx; omega⟩ (by simp) W _ _ _ _ _ _ ((hk.below T7.out.hb).below hW) (hk'.below hW)
              have hkc : ∀ W, Below wv.heap.size wv W → W.cell? (ad.add i) = some (.slice K rn kc) ∧ W.cell? (bd.add i) = some (.slice K' rn kc') := fun W hW => ⟨(hW.cell (World.block_lt_of_cell? wv _ x0)).trans x0, (hW.cell (World.block_lt_of_cell? wv _ y0)).trans y0⟩
              have HC39 := hide c39
              have HKC := hide hkc
              subst hA; subst hB
              clear hr hk hk' hrn hfew c39 hkc
              go_wp2_with fail
              have HBW := hide (Below.refl wv.heap.size wv)
              go_region_held3 (fun w' => w'.cell? (ad.add i) = some (.slice K rn kc) ∧ w'.cell? (bd.add i) = some (.slice K' rn kc')) (first | exact HKC.out _ HBW.out | exact HKC.out _ (below_then HBW.out (by repeat (first | exact Below.refl _ _ | refine Below.drew ?_ | refine below_drewN ?_ _ | refine Below.alloc ?_ (by simp <;> omega) _))) | go_keep | assumption) (first | (go_simp; go_at_call 39; refine (HC39.out _ (below_then HBW.out (by repeat (first | exact Below.refl _ _ | refine Below.drew ?_ | refine below_drewN ?_ _ | refine Below.alloc ?_ (by simp <;> omega) _)))).mono ?_; rintro e wn ⟨rfl, hbn⟩; have HBW := hide (below_then (below_then HBW.out (by repeat (first | exact Below.refl _ _ | refine Below.drew ?_ | refine below_drewN ?_ _ | refine Below.alloc ?_ (by simp <;> omega) _))) hbn); clear hbn))
              have HB8 := hide (below_then HBX.out HBW.out)
              go_wp2
              go_roundw
              case rel => exact ⟨i + 1, by omega, by go_num, HB8.out⟩
              case measure => simp [intOf]; omega
            · go_wp2_with (go_at_call 32; refine (works22_at _ T7.out.hb).mono ?_; rintro e w9 ⟨rfl, hb9⟩; have HB9 := hide hb9; clear hb9)
              go_ret
              exact ⟨rfl, HB9.out⟩
  · have hn6' : 6 < n := by omega
    clear hn6
    go_enter Try.func11, Try.ntmps11
    go_wp2_with (go_at_call 32; refine (works22_at _ (Below.refl _ _)).mono ?_; rintro e w9 ⟨rfl, hb9⟩; have HB9 := hide hb9; clear hb9)
    go_ret
    exact ⟨rfl, HB9.out⟩
end Go.Proofs.Ytbobjecjopmnfaa
