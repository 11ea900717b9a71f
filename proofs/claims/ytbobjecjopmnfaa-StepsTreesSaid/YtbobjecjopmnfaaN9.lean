/- The walk of Take (the reference's 22). -/
import Derived.Test.YtbobjecjopmnfaaN8
namespace Go.Proofs.Ytbobjecjopmnfaa
open Go.RowKit
open Pt (szL sz encL enc roots encL_length roots_length enc_length shift RT)
attribute [local go_sem ↓] Go.wp_at_zero Go.wp_at_succ
set_option maxRecDepth 20000 in
set_option maxHeartbeats 16000000 in
theorem rtake_any {by_ : Pt} (hbt : TN by_) : ∀ (N : Nat) (op pl : Int) (ks : List Pt), sz (.mk op pl ks) ≤ N → N + lenO by_ ≤ 500 → RT (.mk op pl ks) → ∀ (leaf : Int), -1000 ≤ leaf → leaf ≤ 1000 → ∀ (ok : Nat → Prop) (A : Option Addr) (c m : Nat) (KB : Option Addr) (kbn kbc : Nat) (w : World), m = ks.length → kbn = by_.kids.length → Rds El.pt w ok (.slice A m c) ks → Rds El.pt w ok (.slice KB kbn kbc) by_.kids →
    Calls Try.prog 37 #[.agg #[.int .u8 op, .int .i64 pl, .slice A m c], .int .i64 leaf, .agg #[.int .u8 by_.op, .int .i64 by_.pl, .slice KB kbn kbc]] w (GetP (takeT leaf by_ (.mk op pl ks)) ok w) := by
  intro N
  induction N with
  | zero =>
    intro op pl ks hp
    have := Pt.sz_pos (.mk op pl ks)
    omega
  | succ N ih =>
    intro op pl ks hp hN hr leaf hl1 hl2 ok A c m KB kbn kbc w hm hkb h hb
    have hsz : sz (.mk op pl ks) = 1 + szL ks := by rw [sz]
    have HBY := hide (hb.mono (ok' := fun b => ok b ∧ b < w.heap.size) (fun b h1 h2 => ⟨h1, h2⟩))
    have H := hide (h.mono (ok' := fun b => ok b ∧ b < w.heap.size) (fun b h1 h2 => ⟨h1, h2⟩))
    have hop := hr.op_ne
    simp only [Pt.op] at hop
    obtain ⟨W0, hW0⟩ : ∃ W0, W0 = ((w.alloc (.cells #[.int .u8 op, .int .i64 pl, .slice A m c] 65 (0, 0))).alloc (.cells #[.int .u8 by_.op, .int .i64 by_.pl, .slice KB kbn kbc] 65 (0, 0))).alloc (.cells #[.int .u8 0, .int .i64 0, .slice none 0 0] 65 (0, 0)) := ⟨_, rfl⟩
    have t0 : Ta w W0 #[.int .u8 op, .int .i64 pl, .slice A m c] #[.int .u8 by_.op, .int .i64 by_.pl, .slice KB kbn kbc] ok [] none 0 0 := by
      rw [hW0]
      refine ⟨blk_alloc (blk_alloc (blk_new (by simp)) _) _, blk_alloc (blk_new (by simp)) _, blk_new (by simp), OwnP.nil _ _ _ _, fun b hb => (Fp_none hb).elim, rfl, (((Below.refl _ _).alloc (Nat.le_refl _) _).alloc (by simp) _).alloc (by simp; omega) _⟩
    have T0 := hide t0
    have HKB := hide hkb
    have hs3 : W0.heap.size = w.heap.size + 3 := by rw [hW0]; simp
    have HW0 := hide hW0
    rcases RT.cases hr with ⟨h3, h7, rfl⟩ | ⟨h1, rfl, h2, h4⟩
    · have htk : takeT leaf by_ (.mk op pl []) = by_ := by rw [takeT, if_pos h3]
      rw [htk]
      clear hr h ih hm hsz hp t0 hb hkb hs3 hW0 hop
      go_enter Try.func37, Try.ntmps37
      go_wp2
      refine bodyPost_ret (v := .agg #[.int .u8 by_.op, .int .i64 by_.pl, .slice KB kbn kbc]) (by simp [results, Try.results37, go_sem]) rfl ?_
      obtain rfl : kbn = by_.kids.length := HKB.out
      exact ⟨KB, kbc, rfl, (HBY.out.mono (fun b h1 _ => .inl h1.1)).below (by repeat (first | exact Below.refl _ _ | refine Below.drew ?_ | refine below_drewN ?_ _ | refine Below.alloc ?_ (by simp <;> omega) _)), (by repeat (first | exact Below.refl _ _ | refine Below.drew ?_ | refine below_drewN ?_ _ | refine Below.alloc ?_ (by simp <;> omega) _))⟩
    · have hrts : RTs ks := fun q hq => (h4 q hq).1
      have n3 : ¬ 3 ≤ op := by omega
      have htk : takeT leaf by_ (.mk op 0 ks) = putT op (takeL leaf by_ ks) := by rw [takeT, if_neg n3]
      rw [htk]
      have hszl : szL ks ≤ N := by omega
      have hks : m ≤ 500 := by have := szL_ge ks; omega
      have hbl : (takeL leaf by_ ks).length = m := by rw [takeL_length]; exact hm.symm
      have hbk : ∀ q ∈ takeL leaf by_ ks, q.kids.length ≤ 500 := fun q hq => by
        have e1 := (takeL_TN ks leaf by_ hrts hbt q hq).kids_le
        have e2 := sumO_mem hq
        have e3 := takeL_len ks leaf by_ hrts hbt
        omega
      have HRT := hide hrts
      have HIH := hide ih
      have HM := hide hm
      have HOP := hide h1
      have HBL := hide hbl
      have HBK := hide hbk
      rw [hW0] at T0
      clear hrts ih h hr hm hsz hp hbl hbk h4 h2 h1 t0 hb hkb htk hW0 hs3 HW0
      go_enter Try.func37, Try.ntmps37
      go_wp2
      go_loopw [1, 7, 8] (fun lv kv iv wr => ∃ (j : Nat) (lf : Int) (B : Option Addr) (cb : Nat), j ≤ m ∧ iv = .int .i64 j ∧ lf = leaf - szL (ks.take j) ∧ lv = .int .i64 lf ∧ kv = .slice B j cb ∧ Hid (Ta w wr #[.int .u8 op, .int .i64 0, .slice A m c] #[.int .u8 by_.op, .int .i64 by_.pl, .slice KB kbn kbc] ok (takeL leaf by_ (ks.take j)) B j cb)) (fun _ _ i _ => m - (intOf i).toNat)
      case atStart => exact ⟨0, leaf, none, 0, Nat.zero_le _, rfl, by simp [szL], rfl, rfl, T0.out⟩
      case round =>
        clear T0
        obtain ⟨j, lf, B, cb, hj, rfl, hlf, rfl, rfl, T⟩ := hrel
        have a0 := blk_cell T.out.bp 0
        have a2 := blk_cell T.out.bp 2
        have al := blk_lt T.out.bp
        simp at a0 a2
        by_cases hlt2 : j < m
        · obtain ⟨p, hpj⟩ : ∃ p, ks[j]? = some p := ⟨_, List.getElem?_eq_getElem (by rw [← HM.out]; exact hlt2)⟩
          obtain ⟨ad, K, kc, hA, y0, y1, y2, hk⟩ := H.out.pt_at (Below.refl _ _) hpj
          have hnx := szL_take_next ks j p hpj
          have hle := szL_take_le ks j p hpj
          have htn := takeL_next hpj leaf by_
          rw [← hlf] at htn
          have hrp := HRT.out p (List.mem_of_getElem? hpj)
          obtain ⟨po, pp, pk⟩ := p
          have hc := fun (W : World) (hB : Below w.heap.size w W) => HIH.out po pp pk (by omega) (by omega) hrp lf
          have hsz1 := fun (W : World) (hB : Below w.heap.size w W) => rsize_any 2000 po pp pk (by omega) (by omega) hrp _ K kc pk.length W rfl (hk.below hB)
          simp only [Pt.op, Pt.pl, Pt.kids] at y0 y1 y2 hk
          have hcells := fun (W : World) (hB : Below w.heap.size w W) => And.intro ((hB.cell (World.block_lt_of_cell? w _ y0)).trans y0) (And.intro ((hB.cell (p := ⟨(ad.add (j * 3)).block, (ad.add (j * 3)).off + 1, none⟩) (World.block_lt_of_cell? w _ y1)).trans y1) ((hB.cell (p := ⟨(ad.add (j * 3)).block, (ad.add (j * 3)).off + 2, none⟩) (World.block_lt_of_cell? w _ y2)).trans y2))
          obtain ⟨x0, x1, x2⟩ := hcells _ T.out.hb
          have HX := hide hcells
          obtain ⟨s, hs⟩ : ∃ s, s = sz (.mk po pp pk) := ⟨_, rfl⟩
          rw [← hs] at hnx hle hsz1 htn
          have hsp : 0 < s := by rw [hs]; exact Pt.sz_pos _
          have HK := hide hk
          have HSI := hide hsz1
          have HNX := hide hnx
          have HTN := hide htn
          have hlo : -1500 ≤ lf := by omega
          have hhi : lf ≤ 1000 := by omega
          have hs5 : s ≤ 500 := by omega
          have HLF := hide hlf
          have HC := hide (fun (W : World) (hB : Below w.heap.size w W) (h0 : -1000 ≤ lf) => HIH.out po pp pk (by rw [← hs]; omega) (by omega) hrp lf h0 hhi (fun b => ok b ∧ b < w.heap.size) K kc pk.length KB kbn kbc W rfl HKB.out (hk.below hB) (HBY.out.below hB))
          subst hA
          clear hpj hc hk hnx hrp hs hle hsz1 htn hcells y0 y1 y2 hlf
          have hS : ∀ (W : World) (xs : List Pt) (B' : Option Addr) (q' c' : Nat), Ta w W #[.int .u8 op, .int .i64 0, .slice (some ad) m c] #[.int .u8 by_.op, .int .i64 by_.pl, .slice KB kbn kbc] ok xs B' q' c' → W.cell? ⟨w.heap.size, 2, none⟩ = some (.slice (some ad) m c) ∧ (W.cell? ⟨w.heap.size + 1, 0, none⟩ = some (.int .u8 by_.op) ∧ W.cell? ⟨w.heap.size + 1, 1, none⟩ = some (.int .i64 by_.pl) ∧ W.cell? ⟨w.heap.size + 1, 2, none⟩ = some (.slice KB kbn kbc)) ∧ W.cell? (ad.add (j * 3)) = some (.int .u8 po) ∧ W.cell? ⟨(ad.add (j * 3)).block, (ad.add (j * 3)).off + 1, none⟩ = some (.int .i64 pp) ∧ W.cell? ⟨(ad.add (j * 3)).block, (ad.add (j * 3)).off + 2, none⟩ = some (.slice K pk.length kc) := fun W xs B' q' c' T => by
            have u0 := blk_cell T.bp 2
            have u1 := blk_cell T.bb 0
            have u2 := blk_cell T.bb 1
            have u3 := blk_cell T.bb 2
            simp at u0 u1 u2 u3
            exact ⟨u0, ⟨u1, u2, u3⟩, HX.out _ T.hb⟩
          have HS := hide hS
          clear hS
          have hcase : (0 ≤ lf ∧ lf < s) ∨ (0 ≤ lf ∧ ¬ lf < s) ∨ ¬ 0 ≤ lf := by omega
          rcases hcase with ⟨c1, c2⟩ | ⟨c1, c2⟩ | c1
          · go_wp2_with (go_at_call 65; refine (HSI.out _ T.out.hb).mono ?_; rintro e w2 ⟨rfl, hb2⟩; have T2 := hide (T.out.below hb2); have u0 := blk_cell T2.out.bp 2; have u1 := blk_cell T2.out.bb 0; have u2 := blk_cell T2.out.bb 1; have u3 := blk_cell T2.out.bb 2; have ul := blk_lt T2.out.bb; have ul0 := blk_lt T2.out.bp; simp at u0 u1 u2 u3; obtain ⟨z0, z1, z2⟩ := HX.out _ T2.out.hb; clear hb2)
            go_region_held3 (fun w' => w'.cell? ⟨w.heap.size, 2, none⟩ = some (.slice (some ad) m c) ∧ (w'.cell? ⟨w.heap.size + 1, 0, none⟩ = some (.int .u8 by_.op) ∧ w'.cell? ⟨w.heap.size + 1, 1, none⟩ = some (.int .i64 by_.pl) ∧ w'.cell? ⟨w.heap.size + 1, 2, none⟩ = some (.slice KB kbn kbc)) ∧ w'.cell? (ad.add (j * 3)) = some (.int .u8 po) ∧ w'.cell? ⟨(ad.add (j * 3)).block, (ad.add (j * 3)).off + 1, none⟩ = some (.int .i64 pp) ∧ w'.cell? ⟨(ad.add (j * 3)).block, (ad.add (j * 3)).off + 2, none⟩ = some (.slice K pk.length kc)) (first | exact HS.out _ _ _ _ _ T4.out | exact HS.out _ _ _ _ _ T3.out | exact HS.out _ _ _ _ _ T2.out | go_keep | assumption) (first | (go_simp; go_at_call 37; refine (HC.out _ (T2.out.below (by repeat (first | exact Below.refl _ _ | refine Below.drew ?_ | refine below_drewN ?_ _ | refine Below.alloc ?_ (by simp) _))).hb (by omega)).mono ?_; rintro e w3 ⟨P, pc, rfl, hp3, hb3⟩; have T3 := hide ((T2.out.below (by repeat (first | exact Below.refl _ _ | refine Below.drew ?_ | refine below_drewN ?_ _ | refine Below.alloc ?_ (by simp) _))).below hb3); have HP3 := hide (T2.out.new (by repeat (first | exact Below.refl _ _ | refine Below.drew ?_ | refine below_drewN ?_ _ | refine Below.alloc ?_ (by simp) _)) hp3); clear hb3 hp3) | (go_must (refine step_append_pt _ rfl (.tmp 34) (.tmp 43) rfl (TOk w ok) B j cb (takeL leaf by_ (ks.take j)) (by rfl) (T3.out.len.symm) (T3.out.own.below (by repeat (first | exact Below.refl _ _ | refine Below.drew ?_ | refine below_drewN ?_ _ | refine Below.alloc ?_ (by simp) _))) _ (takeT lf by_ (.mk po pp pk)) P pc (by rfl) (blk_new (by rfl)) (HP3.out.below (by repeat (first | exact Below.refl _ _ | refine Below.drew ?_ | refine below_drewN ?_ _ | refine Below.alloc ?_ (by simp) _))) (tok_new (Nat.lt_of_lt_of_le (blk_lt T3.out.br) (by simp))) (by omega) ?_); intro A4 c4 w4 hown4 honly4 hfp4; have T4 := hide ((T3.out.below (by repeat (first | exact Below.refl _ _ | refine Below.drew ?_ | refine below_drewN ?_ _ | refine Below.alloc ?_ (by simp) _))).grow hown4 honly4 hfp4); clear hown4 honly4 hfp4))
            go_wp2
            go_roundw
            case rel =>
              refine ⟨j + 1, lf - s, A4, c4, by omega, by go_num, by rw [HNX.out, HLF.out]; omega, by go_num, by go_num, ?_⟩
              rw [HTN.out, if_pos ⟨c1, c2⟩]
              exact T4.out
            case measure => simp [intOf]; omega
          · go_wp2_with (first | (go_at_call 65; refine (HSI.out _ T.out.hb).mono ?_; rintro e w2 ⟨rfl, hb2⟩; have T2 := hide (T.out.below hb2); have u0 := blk_cell T2.out.bp 2; have u1 := blk_cell T2.out.bb 0; have u2 := blk_cell T2.out.bb 1; have u3 := blk_cell T2.out.bb 2; have ul := blk_lt T2.out.bb; have ul0 := blk_lt T2.out.bp; simp at u0 u1 u2 u3; obtain ⟨z0, z1, z2⟩ := HX.out _ T2.out.hb; clear hb2) | (at_builtin; refine wpList_append_pt _ rfl (.tmp 45) (.tmp 51) rfl (TOk w ok) B j cb (takeL leaf by_ (ks.take j)) rfl (T2.out.len.symm) (T2.out.own.below (by repeat (first | exact Below.refl _ _ | refine Below.drew ?_ | refine below_drewN ?_ _ | refine Below.alloc ?_ (by simp) _))) _ (.mk po pp pk) K kc rfl (blk_new (by rfl)) ((T2.out.old HK.out).below (by repeat (first | exact Below.refl _ _ | refine Below.drew ?_ | refine below_drewN ?_ _ | refine Below.alloc ?_ (by simp) _))) (tok_new (Nat.lt_of_lt_of_le (blk_lt T2.out.br) (by simp))) (by omega) ?_; intro A4 c4 w4 hown4 honly4 hfp4; have T4 := hide ((T2.out.below (by repeat (first | exact Below.refl _ _ | refine Below.drew ?_ | refine below_drewN ?_ _ | refine Below.alloc ?_ (by simp) _))).grow hown4 honly4 hfp4); clear hown4 honly4 hfp4))
            go_roundw
            case rel =>
              refine ⟨j + 1, lf - s, A4, c4, by omega, by go_num, by rw [HNX.out, HLF.out]; omega, by go_num, by go_num, ?_⟩
              rw [HTN.out, if_neg (by omega)]
              exact T4.out
            case measure => simp [intOf]; omega
          · go_wp2_with (first | (go_at_call 65; refine (HSI.out _ T.out.hb).mono ?_; rintro e w2 ⟨rfl, hb2⟩; have T2 := hide (T.out.below hb2); have u0 := blk_cell T2.out.bp 2; have u1 := blk_cell T2.out.bb 0; have u2 := blk_cell T2.out.bb 1; have u3 := blk_cell T2.out.bb 2; have ul := blk_lt T2.out.bb; have ul0 := blk_lt T2.out.bp; simp at u0 u1 u2 u3; obtain ⟨z0, z1, z2⟩ := HX.out _ T2.out.hb; clear hb2) | (at_builtin; refine wpList_append_pt _ rfl (.tmp 45) (.tmp 51) rfl (TOk w ok) B j cb (takeL leaf by_ (ks.take j)) rfl (T2.out.len.symm) (T2.out.own.below (by repeat (first | exact Below.refl _ _ | refine Below.drew ?_ | refine below_drewN ?_ _ | refine Below.alloc ?_ (by simp) _))) _ (.mk po pp pk) K kc rfl (blk_new (by rfl)) ((T2.out.old HK.out).below (by repeat (first | exact Below.refl _ _ | refine Below.drew ?_ | refine below_drewN ?_ _ | refine Below.alloc ?_ (by simp) _))) (tok_new (Nat.lt_of_lt_of_le (blk_lt T2.out.br) (by simp))) (by omega) ?_; intro A4 c4 w4 hown4 honly4 hfp4; have T4 := hide ((T2.out.below (by repeat (first | exact Below.refl _ _ | refine Below.drew ?_ | refine below_drewN ?_ _ | refine Below.alloc ?_ (by simp) _))).grow hown4 honly4 hfp4); clear hown4 honly4 hfp4))
            go_roundw
            case rel =>
              refine ⟨j + 1, lf - s, A4, c4, by omega, by go_num, by rw [HNX.out, HLF.out]; omega, by go_num, by go_num, ?_⟩
              rw [HTN.out, if_neg (by omega)]
              exact T4.out
            case measure => simp [intOf]; omega
        · obtain rfl : j = m := by omega
          have hall : ks.take j = ks := List.take_of_length_le (by rw [← HM.out]; exact Nat.le_refl _)
          rw [hall] at T
          clear hall
          obtain ⟨xs, hxs⟩ : ∃ xs, xs = takeL leaf by_ ks := ⟨_, rfl⟩
          rw [← hxs] at T HBL HBK
          have HXS := hide hxs
          obtain ⟨r, hr⟩ : ∃ r, r = putT op xs := ⟨_, rfl⟩
          have hput := rput_any (ok := TOk w ok) op xs (HBL.out.symm) (by omega) HBK.out hop wr T.out.own.rds
          rw [← hr] at hput
          have HR := hide hr
          have HPU := hide hput
          clear hxs hr hput
          go_wp2_with (go_at_call 45; refine HPU.out.mono ?_; rintro e w2 ⟨P, pc, rfl, hp2, hb2⟩; have T2 := hide (T.out.below hb2); have r0 := blk_cell T2.out.br 0; have r1 := blk_cell T2.out.br 1; have r2 := blk_cell T2.out.br 2; have rf0 := blk_frozen T2.out.br 0; have rf1 := blk_frozen T2.out.br 1; have rf2 := blk_frozen T2.out.br 2; have rl := blk_lt T2.out.br; simp at r0 r1 r2; have HP2 := hide hp2; clear hb2 hp2)
          refine bodyPost_ret (v := .agg #[.int .u8 r.op, .int .i64 r.pl, .slice P r.kids.length pc]) (by simp [results, Try.results37, go_sem, r0, r1, r2]) rfl ?_
          rw [← HXS.out, ← HR.out]
          have hl := blk_lt T.out.br
          refine ⟨P, pc, rfl, (HP2.out.move (ok := fun b => TOk w ok b ∨ wr.heap.size ≤ b) (fun b hb hlt => ?_)).mono (fun b hb _ => ?_), ((T2.out.hb.setCell (p := ⟨w.heap.size + 1 + 1, 0, none⟩) (by show w.heap.size ≤ w.heap.size + 1 + 1; omega) _).setCell (p := ⟨w.heap.size + 1 + 1, 1, none⟩) (by show w.heap.size ≤ w.heap.size + 1 + 1; omega) _).setCell (p := ⟨w.heap.size + 1 + 1, 2, none⟩) (by show w.heap.size ≤ w.heap.size + 1 + 1; omega) _⟩
          · obtain ⟨o, ho⟩ : ∃ o, w2.heap[b]? = some o := ⟨_, Array.getElem?_eq_getElem hlt⟩
            have hne : b ≠ w.heap.size + 1 + 1 := fun e => by
              rcases hb with (hb | hb) | hb
              · have := hb.2
                omega
              · omega
              · omega
            rw [ho]
            exact blk_far (p := ⟨w.heap.size + 1 + 1, 2, none⟩) (blk_far (p := ⟨w.heap.size + 1 + 1, 1, none⟩) (blk_far (p := ⟨w.heap.size + 1 + 1, 0, none⟩) ho hne _) hne _) hne _
          · rcases hb with (hb | hb) | hb
            · exact .inl hb.1
            · exact .inr (by omega)
            · exact .inr (by omega)
end Go.Proofs.Ytbobjecjopmnfaa
