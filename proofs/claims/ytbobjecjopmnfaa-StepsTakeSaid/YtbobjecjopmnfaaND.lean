/- The walk of StepsTake, where the trees are few. -/
import Derived.Test.YtbobjecjopmnfaaNC
namespace Go.Proofs.Ytbobjecjopmnfaa
open Go.RowKit
open Pt (szL sz encL enc roots encL_length roots_length enc_length shift RT)
theorem rtake_RT {by_ q : Pt} (hbt : TN by_) (hq : RT q) (hs : lenO q + lenO by_ ≤ 500) (leaf : Int) (h1 : -1000 ≤ leaf) (h2 : leaf ≤ 1000) {ok : Nat → Prop} {A KB : Option Addr} {c kbc : Nat} (w : World) (h : Rds El.pt w ok (.slice A q.kids.length c) q.kids) (hb : Rds El.pt w ok (.slice KB by_.kids.length kbc) by_.kids) :
    Calls Try.prog 37 #[.agg #[.int .u8 q.op, .int .i64 q.pl, .slice A q.kids.length c], .int .i64 leaf, .agg #[.int .u8 by_.op, .int .i64 by_.pl, .slice KB by_.kids.length kbc]] w (GetP (takeT leaf by_ q) ok w) := by
  rw [lenO_RT hq] at hs
  obtain ⟨op, pl, ks⟩ := q
  exact rtake_any hbt (sz (.mk op pl ks)) op pl ks (Nat.le_refl _) hs hq leaf h1 h2 ok A c ks.length KB by_.kids.length kbc w rfl rfl h hb
set_option maxRecDepth 20000 in
set_option maxHeartbeats 16000000 in
theorem stepsTake_core {okt okb : Nat → Prop} {A B : Option Addr} {c bc n bn : Nat} (l b : List Nd) (leaf : Int) (w : World) (hn : n = l.length) (hbn : bn = b.length) (h : Rds El.nd w okt (.slice A n c) l) (hb : Rds El.nd w okb (.slice B bn bc) b)
    (f0 : Few22 l) (f2 : Few22 b) (q p2 : Pt) (ok1 ok2 : Bool) (ho1 : ofT l = (q, ok1)) (ho2 : ofT b = (p2, ok2)) (WANT : List Nd) (hwf : Fits22 WANT)
    (htk : ∀ W, Below w.heap.size w W → Calls Try.prog 38 #[.agg #[.slice A n c], .int .i64 leaf, .agg #[.slice B bn bc]] W (MadeT WANT W))
    (hboth : ok1 = true → ok2 = true → TN q ∧ TN p2 ∧ lenO q ≤ 60 ∧ lenO p2 ≤ 60 ∧ (leaf ∈ readyT 0 q → q.op ≠ 0 → -1000 ≤ leaf ∧ leaf ≤ 1000) ∧ WANT = if leaf ∈ readyT 0 q ∧ q.op ≠ 0 then encO (takeT leaf p2 q) else l)
    (hnone : ¬ (ok1 = true ∧ ok2 = true) → WANT = l) :
    Calls Try.prog 9 #[.agg #[.slice A n c], .int .i64 leaf, .agg #[.slice B bn bc]] w (SaysB true w) := by
  have fit0 : Fits22 l := ⟨by have := f0.1; omega, fun x hx => by have := f0.2 x hx; omega⟩
  have fit2 : Fits22 b := ⟨by have := f2.1; omega, fun x hx => by have := f2.2 x hx; omega⟩
  have HF0 := hide (few22_b hn h)
  have HF2 := hide (few22_b hbn hb)
  have c33 : ∀ W, Below w.heap.size w W → Calls Try.prog 33 #[.agg #[.slice A n c]] W fun e w' => ∃ PA pc, e = .returned (.slice PA n pc) ∧ Rds El.nd w' (fun b => W.heap.size ≤ b) (.slice PA n pc) l ∧ Below W.heap.size W w' := fun W hB => by
    subst hn
    exact rowof_any l W (h.below hB) fit0
  have d33 : ∀ W, Below w.heap.size w W → Calls Try.prog 33 #[.agg #[.slice B bn bc]] W fun e w' => ∃ PA pc, e = .returned (.slice PA bn pc) ∧ Rds El.nd w' (fun b => W.heap.size ≤ b) (.slice PA bn pc) b ∧ Below W.heap.size W w' := fun W hB => by
    subst hbn
    exact rowof_any b W (hb.below hB) fit2
  have c34 : ∀ W (ok' : Nat → Prop) PA pc, Rds El.nd W ok' (.slice PA n pc) l → Calls Try.prog 34 #[.slice PA n pc] W (GetOf (q, ok1) W) := fun W ok' PA pc hr => by
    rw [← ho1]
    exact of_any W hr hn fit0
  have d34 : ∀ W (ok' : Nat → Prop) PA pc, Rds El.nd W ok' (.slice PA bn pc) b → Calls Try.prog 34 #[.slice PA bn pc] W (GetOf (p2, ok2) W) := fun W ok' PA pc hr => by
    rw [← ho2]
    exact of_any W hr hbn fit2
  have c39 : ∀ W (ok' : Nat → Prop) PA pc, Below w.heap.size w W → Rds El.nd W ok' (.slice PA n pc) l → Calls Try.prog 39 #[.agg #[.slice A n c], .slice PA n pc] W fun e w' => e = .returned (.bool true) ∧ Below W.heap.size W w' := fun W ok' PA pc hB hr => by
    subst hn
    refine (is22_any l l fit0 W (h.below hB) hr).mono ?_
    rintro e w' ⟨rfl, h2⟩
    exact ⟨by simp, h2⟩
  have e39 : ∀ W (ok1' ok2' : Nat → Prop) GA gc PA pc, Rds El.nd W ok1' (.slice GA WANT.length gc) WANT → Rds El.nd W ok2' (.slice PA WANT.length pc) WANT → Calls Try.prog 39 #[.agg #[.slice GA WANT.length gc], .slice PA WANT.length pc] W fun e w' => e = .returned (.bool true) ∧ Below W.heap.size W w' := fun W ok1' ok2' GA gc PA pc h1 hr => by
    refine (is22_any WANT WANT hwf W h1 hr).mono ?_
    rintro e w' ⟨rfl, h2⟩
    exact ⟨by simp, h2⟩
  have t0 := T9.init w (.slice A n c) (.slice B bn bc)
  have T0 := hide t0
  have HC33 := hide c33
  have HD33 := hide d33
  have HC34 := hide c34
  have HD34 := hide d34
  have HC39 := hide c39
  have HE39 := hide e39
  have HTK := hide htk
  have HBO := hide hboth
  have HNO := hide hnone
  have HWF := hide hwf
  have HN := hide hn
  have hn60 : n ≤ 60 := by rw [hn]; exact f0.1
  clear hn hbn h hb t0 f0 f2 fit0 fit2 ho1 ho2 hwf htk hboth hnone c33 d33 c34 d34 c39 e39
  go_enter Try.func9, Try.ntmps9
  go_wp2_with fail
  go_at_call 31
  refine (HF0.out _ T0.out.hb).mono ?_
  rintro e w1 ⟨b1, rfl, -, hb1⟩
  have T1 := hide (T0.out.below hb1)
  obtain ⟨c1, c2, l1, l2⟩ := T1.out.cells
  clear hb1 T0
  cases b1 with
  | false =>
    go_wp2_with (go_at_call 32; refine (works22_at _ T1.out.hb).mono ?_; rintro e w9 ⟨rfl, hb9⟩; have HB9 := hide hb9; clear hb9)
    go_ret
    exact ⟨rfl, HB9.out⟩
  | true =>
    go_wp2_with fail
    go_at_call 31
    refine (HF2.out _ T1.out.hb).mono ?_
    rintro e w2 ⟨b2, rfl, -, hb2⟩
    have T2 := hide (T1.out.below hb2)
    clear c1 c2 l1 l2
    obtain ⟨c1, c2, l1, l2⟩ := T2.out.cells
    clear hb2
    cases b2 with
    | false =>
      go_wp2_with (go_at_call 32; refine (works22_at _ T2.out.hb).mono ?_; rintro e w9 ⟨rfl, hb9⟩; have HB9 := hide hb9; clear hb9)
      go_ret
      exact ⟨rfl, HB9.out⟩
    | true =>
      go_wp2_with fail
      go_at_call 33
      refine (HC33.out _ T2.out.hb).mono ?_
      rintro e w3 ⟨PA, pc, rfl, hpl, hb3⟩
      have T3 := hide (T2.out.below hb3)
      have HPL3 := hide hpl
      clear c1 c2 l1 l2
      obtain ⟨c1, c2, l1, l2⟩ := T3.out.cells
      clear hb3 hpl
      go_wp2_with fail
      go_at_call 34
      refine (HC34.out _ _ _ _ HPL3.out).mono ?_
      rintro e w4 ⟨QA, qc, rfl, hq4, hb4⟩
      have T4 := hide (T3.out.below hb4)
      have HPL4 := hide (HPL3.out.below hb4)
      have HQ4 := hide hq4
      clear c1 c2 l1 l2
      obtain ⟨c1, c2, l1, l2⟩ := T4.out.cells
      clear hb4 hq4
      have hbx : (w4.alloc (.cells #[.int .u8 q.op, .int .i64 q.pl, .slice QA q.kids.length qc] 65 (0, 0))).heap[w4.heap.size]? = some (.cells #[.int .u8 q.op, .int .i64 q.pl, .slice QA q.kids.length qc] 65 (0, 0)) := heap_alloc_new _ _
      have BX4 := hide hbx
      have hba := (Below.refl w4.heap.size w4).alloc (Nat.le_refl _) (.cells #[.int .u8 q.op, .int .i64 q.pl, .slice QA q.kids.length qc] 65 (0, 0))
      have HBA := hide hba
      clear hbx hba
      go_wp2_with fail
      go_at_call 33
      refine (HD33.out _ (T4.out.below HBA.out).hb).mono ?_
      rintro e w5 ⟨RA, rc, rfl, hrl, hb5⟩
      have T5 := hide ((T4.out.below HBA.out).below hb5)
      have HPL5 := hide ((HPL4.out.below HBA.out).below hb5)
      have HQ5 := hide ((HQ4.out.below HBA.out).below hb5)
      have BX5 := hide (box_same BX4.out hb5)
      have HRL5 := hide hrl
      clear c1 c2 l1 l2
      obtain ⟨c1, c2, l1, l2⟩ := T5.out.cells
      clear hb5 hrl
      go_wp2_with fail
      go_at_call 34
      refine (HD34.out _ _ _ _ HRL5.out).mono ?_
      rintro e w6 ⟨QB, qbc, rfl, hp6, hb6⟩
      have T6 := hide (T5.out.below hb6)
      have HPL6 := hide (HPL5.out.below hb6)
      have HQ6 := hide (HQ5.out.below hb6)
      have BX6 := hide (box_same BX5.out hb6)
      have HP6 := hide hp6
      clear c1 c2 l1 l2
      obtain ⟨c1, c2, l1, l2⟩ := T6.out.cells
      clear hb6 hp6
      go_upto_region 6 with fail
      obtain ⟨w7, hw7⟩ : ∃ w7, w7 = w6.alloc (.cells #[.int .u8 p2.op, .int .i64 p2.pl, .slice QB p2.kids.length qbc] 65 (0, 0)) := ⟨_, rfl⟩
      have hb7 : Below w6.heap.size w6 w7 := by rw [hw7]; exact (Below.refl _ _).alloc (Nat.le_refl _) _
      have bx7 : w7.heap[w6.heap.size]? = some (.cells #[.int .u8 p2.op, .int .i64 p2.pl, .slice QB p2.kids.length qbc] 65 (0, 0)) := by rw [hw7]; exact heap_alloc_new _ _
      rw [← hw7]
      have T7 := hide (T6.out.below hb7)
      have HPL7 := hide (HPL6.out.below hb7)
      have HQ7 := hide (HQ6.out.below hb7)
      have HP7 := hide (HP6.out.below hb7)
      have BX7 := hide (box_same BX6.out hb7)
      have BY7 := hide bx7
      clear hw7 hb7 bx7 c1 c2 l1 l2 T1 T2 T3 T4 T5 T6 HPL3 HPL4 HPL5 HPL6 HQ4 HQ5 HQ6 HP6 BX4 BX5 BX6 HBA HRL5 HC33 HD33 HC34 HD34 HF0 HF2
      have q0 := blk_cell BX7.out 0
      have q1 := blk_cell BX7.out 1
      have q2 := blk_cell BX7.out 2
      have y0 := blk_cell BY7.out 0
      have y1 := blk_cell BY7.out 1
      have y2 := blk_cell BY7.out 2
      simp at q0 q1 q2 y0 y1 y2
      have hbool : (ok1 = true ∧ ok2 = true) ∨ ¬ (ok1 = true ∧ ok2 = true) := Classical.em _
      rcases hbool with ⟨rfl, rfl⟩ | hbo
      · obtain ⟨hq, hp2, hlq, hlp, hlf, hwant⟩ := HBO.out rfl rfl
        have HLF := hide hlf
        have HW := hide hwant
        have HQ := hide hq
        have HP := hide hp2
        clear hwant hq hp2 hlf
        go_upto_if 42 with fail
        go_cut [12, 13, 14] (fun wv pv iv wx => ∃ (WA : Option Addr) (wc : Nat), wv = .slice WA WANT.length wc ∧ Hid (Rds El.nd wx (fun _ => True) (.slice WA WANT.length wc) WANT) ∧ Hid (Below w7.heap.size w7 wx))
        case first =>
          go_wp2_with fail
          go_at_call 35
          refine (rready_TN HQ.out (by omega) _ HQ7.out).mono ?_
          rintro e w8 ⟨DA, dc, rfl, hrd, -, hb8⟩
          have hrl := readyT_len q 0
          obtain ⟨rd, hrdd⟩ : ∃ rd, rd = readyT 0 q := ⟨_, rfl⟩
          rw [← hrdd] at HW HLF hrd hrl ⊢
          have HRD := hide (Rds.of_ints (hrd.rd (ok := fun _ => True) (fun _ _ => trivial)))
          have HB8 := hide hb8
          obtain ⟨rn, hrn⟩ : ∃ rn, rn = rd.length := ⟨_, rfl⟩
          rw [← hrn] at HRD ⊢
          have HRN := hide hrn
          have hpl8 := (HPL7.out.mono (ok' := fun _ => True) (fun _ _ _ => trivial)).below hb8
          rw [HN.out] at hpl8
          have HPL8 := hide hpl8
          have hbig : rn ≤ 5000 := by
            have hs := HQ.out
            rw [hrn]
            have : Pt.sz q ≤ 5000 := by
              rcases hs with rfl | hs
              · decide
              · rw [← lenO_RT hs]; omega
            omega
          clear hrd hb8 hrdd hrn hrl hpl8
          go_wp2
          go_loopw [12, 14] (fun wv iv wx => ∃ (j : Nat) (L : List Nd) (WA : Option Addr) (wcc : Nat), j ≤ rn ∧ iv = .int .i64 j ∧ wv = .slice WA L.length wcc ∧ Hid (L = if leaf ∈ rd.take j ∧ q.op ≠ 0 then encO (takeT leaf p2 q) else l) ∧ Hid (Rds El.nd wx (fun _ => True) (.slice WA L.length wcc) L) ∧ Hid (Below w8.heap.size w8 wx)) (fun _ i _ => rn - (intOf i).toNat)
          case atStart => exact ⟨0, l, PA, pc, Nat.zero_le _, rfl, by rw [← HN.out], hide (by simp), HPL8.out, Below.refl _ _⟩
          case round =>
            obtain ⟨wx, rfl⟩ : ∃ wx : World, wx = wr := ⟨_, rfl⟩
            obtain ⟨j, L, WA, wcc, hj, rfl, rfl, HL, HRL, HBX⟩ := hrel
            have B8 := hide (box_same (box_same BX7.out HB8.out) HBX.out)
            have C8 := hide (box_same (box_same BY7.out HB8.out) HBX.out)
            have z0 := blk_cell B8.out 0
            have z1 := blk_cell B8.out 1
            have z2 := blk_cell B8.out 2
            have v0 := blk_cell C8.out 0
            have v1 := blk_cell C8.out 1
            have v2 := blk_cell C8.out 2
            simp at z0 z1 z2 v0 v1 v2
            by_cases hlt : j < rn
            · have hjr : j < rd.length := by rw [← HRN.out]; exact hlt
              obtain ⟨dd, hDA, -, -, x0⟩ := (HRD.out.below HBX.out).int j hjr
              have hmem : ∀ x, x ∈ rd.take (j + 1) ↔ x ∈ rd.take j ∨ x = rd[j] := fun x => by
                rw [List.take_succ_eq_append_getElem hjr, List.mem_append, List.mem_singleton]
              obtain ⟨y, hy⟩ : ∃ y, y = rd[j] := ⟨_, rfl⟩
              rw [← hy] at x0 hmem
              have HM := hide hmem
              subst hDA
              clear hy hmem
              by_cases hyes : y = leaf ∧ q.op ≠ 0
              · obtain ⟨rfl, h0⟩ := hyes
                have hqr : RT q := by
                  rcases HQ.out with rfl | h
                  · exact absurd rfl h0
                  · exact h
                have d1 : (q.op != 0) = true := by rw [bne_iff_ne]; exact h0
                obtain ⟨hlf1, hlf2⟩ := HLF.out (List.mem_of_mem_take ((HM.out y).2 (.inr rfl))) h0
                have HQR := hide hqr
                have H0 := hide h0
                clear hqr h0
                go_wp2_with (first | (go_at_call 36; refine (rrow_TN (takeT_TN q y p2 HQR.out HP.out) (by have := takeT_len q y p2 HQR.out HP.out; have := lenO_RT HQR.out; omega) _ HT10.out).mono ?_; rintro e w11 ⟨NA, nc, rfl, hn11, hb11⟩; have HN11 := hide hn11; have HB11 := hide (below_then HB10.out hb11); clear hn11 hb11) | (go_at_call 37; refine (rtake_RT HP.out HQR.out (by omega) y hlf1 hlf2 _ (((HQ7.out.below HB8.out).below HBX.out).mono (ok' := fun _ => True) (fun _ _ _ => trivial)) (((HP7.out.below HB8.out).below HBX.out).mono (ok' := fun _ => True) (fun _ _ _ => trivial))).mono ?_; rintro e w10 ⟨TA', tcc, rfl, ht, hb10⟩; have HT10 := hide ht; have HB10 := hide (below_then HBX.out hb10); clear ht hb10))
                go_roundw
                case rel =>
                  refine ⟨j + 1, encO (takeT y p2 q), NA, nc, by omega, by go_num, rfl, hide ?_, HN11.out.mono (fun _ _ _ => trivial), HB11.out⟩
                  rw [if_pos ⟨(HM.out y).2 (.inr rfl), H0.out⟩]
                case measure => simp [intOf]; omega
              · have hno : (leaf ∈ rd.take (j + 1) ∧ q.op ≠ 0) ↔ (leaf ∈ rd.take j ∧ q.op ≠ 0) := by
                  rw [HM.out]
                  constructor
                  · rintro ⟨h1 | h1, h2⟩
                    · exact ⟨h1, h2⟩
                    · exact absurd ⟨h1.symm, h2⟩ hyes
                  · rintro ⟨h1, h2⟩
                    exact ⟨.inl h1, h2⟩
                have HNO2 := hide hno
                have hcase : (y == leaf) = false ∨ ((y == leaf) = true ∧ (q.op != 0) = false) := by
                  by_cases h1 : y = leaf
                  · exact .inr ⟨by rw [beq_iff_eq]; exact h1, by simpa using fun h2 => hyes ⟨h1, h2⟩⟩
                  · exact .inl (by rw [beq_eq_false_iff_ne]; exact h1)
                clear hyes hno
                rcases hcase with d1 | ⟨d1, d2⟩
                all_goals
                  go_wp2
                  go_roundw
                  case rel =>
                    refine ⟨j + 1, L, WA, wcc, by omega, by go_num, rfl, hide ?_, HRL.out, HBX.out⟩
                    simp only [HNO2.out]
                    exact HL.out
                  case measure => simp [intOf]; omega
            · obtain rfl : j = rn := by omega
              have hlw : L = WANT := by
                rw [HL.out, HW.out, List.take_of_length_le (by rw [HRN.out]; exact Nat.le_refl _)]
              have HLW := hide hlw
              clear hlw
              go_wp2
              go_meet
              case rel =>
                obtain rfl := HLW.out
                exact ⟨WA, wcc, rfl, HRL.out, below_then HB8.out HBX.out⟩
        case rest =>
          obtain ⟨WA, wcc, rfl, HR, HB⟩ := hcut
          have T8 := hide (T7.out.below HB.out)
          obtain ⟨c1, c2, l1, l2⟩ := T8.out.cells
          have HPL8 := hide (HPL7.out.below HB.out)
          go_wp2_with fail
          go_at_call 38
          refine (HTK.out _ T8.out.hb).mono ?_
          rintro e w9 ⟨GA, gc, rfl, hgot, hb9⟩
          have T9' := hide (T8.out.below hb9)
          have HPL9 := hide (HPL8.out.below hb9)
          have HR9 := hide (HR.out.below hb9)
          have HG := hide hgot
          have HB9 := hide hb9
          have hgx : (w9.alloc (.cells #[.slice GA WANT.length gc] 59 (0, 0))).heap[w9.heap.size]? = some (.cells #[.slice GA WANT.length gc] 59 (0, 0)) := heap_alloc_new _ _
          have GX := hide hgx
          have hga := (Below.refl w9.heap.size w9).alloc (Nat.le_refl _) (.cells #[.slice GA WANT.length gc] 59 (0, 0))
          have HGA := hide hga
          clear c1 c2 l1 l2 hgot hb9 hgx hga
          go_wp2_with fail
          go_at_call 39
          refine (HE39.out _ _ _ _ _ _ _ (HG.out.rds.to_nd.below HGA.out) (HR9.out.below HGA.out)).mono ?_
          rintro e wa ⟨rfl, hba⟩
          have TA := hide ((T9'.out.below HGA.out).below hba)
          have HPLA := hide ((HPL9.out.below HGA.out).below hba)
          have HGG := hide ((HG.out.below HGA.out).below hba)
          have GXA := hide (box_same GX.out hba)
          have HSA := hide (Nat.le_trans (Nat.le_trans HB9.out.size HGA.out.size) hba.size)
          have HBAA := hide hba
          have g0 := blk_cell GXA.out 0
          have gl := blk_lt GXA.out
          simp at g0
          clear hba
          go_wp2_with fail
          go_at_call 40
          refine (spoil_any HGG.out rfl HWF.out HSA.out).mono ?_
          rintro e wb ⟨rfl, hbb⟩
          have hbt := (below_then (below_then HB9.out HGA.out) HBAA.out).trans hbb
          have TB := hide (T8.out.below hbt)
          have HPLB := hide (HPL8.out.below hbt)
          obtain ⟨c1, c2, l1, l2⟩ := TB.out.cells
          clear hbb hbt
          go_wp2_with fail
          go_at_call 39
          refine (HC39.out _ _ _ _ TB.out.hb HPLB.out).mono ?_
          rintro e wd ⟨rfl, hbd⟩
          have TD := hide (TB.out.below hbd)
          clear hbd c1 c2 l1 l2
          go_wp2_with (go_at_call 32; refine (works22_at _ TD.out.hb).mono ?_; rintro e wf ⟨rfl, hbf⟩; have HBF := hide hbf; clear hbf)
          go_ret
          exact ⟨rfl, HBF.out⟩
      · have hwl := HNO.out hbo
        have HR := hide (HPL7.out.mono (ok' := fun _ => True) (fun _ _ _ => trivial))
        have HB := hide (Below.refl w7.heap.size w7)
        subst hwl
        obtain rfl := HN.out
        cases ok1 <;> cases ok2
        all_goals first | exact absurd ⟨rfl, rfl⟩ hbo | skip
        all_goals
          clear hbo
          have T8 := hide (T7.out.below HB.out)
          obtain ⟨c1, c2, l1, l2⟩ := T8.out.cells
          have HPL8 := hide (HPL7.out.below HB.out)
          go_wp2_with fail
          go_at_call 38
          refine (HTK.out _ T8.out.hb).mono ?_
          rintro e w9 ⟨GA, gc, rfl, hgot, hb9⟩
          have T9' := hide (T8.out.below hb9)
          have HPL9 := hide (HPL8.out.below hb9)
          have HR9 := hide (HR.out.below hb9)
          have HG := hide hgot
          have HB9 := hide hb9
          have hgx : (w9.alloc (.cells #[.slice GA WANT.length gc] 59 (0, 0))).heap[w9.heap.size]? = some (.cells #[.slice GA WANT.length gc] 59 (0, 0)) := heap_alloc_new _ _
          have GX := hide hgx
          have hga := (Below.refl w9.heap.size w9).alloc (Nat.le_refl _) (.cells #[.slice GA WANT.length gc] 59 (0, 0))
          have HGA := hide hga
          clear c1 c2 l1 l2 hgot hb9 hgx hga
          go_wp2_with fail
          go_at_call 39
          refine (HE39.out _ _ _ _ _ _ _ (HG.out.rds.to_nd.below HGA.out) (HR9.out.below HGA.out)).mono ?_
          rintro e wa ⟨rfl, hba⟩
          have TA := hide ((T9'.out.below HGA.out).below hba)
          have HPLA := hide ((HPL9.out.below HGA.out).below hba)
          have HGG := hide ((HG.out.below HGA.out).below hba)
          have GXA := hide (box_same GX.out hba)
          have HSA := hide (Nat.le_trans (Nat.le_trans HB9.out.size HGA.out.size) hba.size)
          have HBAA := hide hba
          have g0 := blk_cell GXA.out 0
          have gl := blk_lt GXA.out
          simp at g0
          clear hba
          go_wp2_with fail
          go_at_call 40
          refine (spoil_any HGG.out rfl HWF.out HSA.out).mono ?_
          rintro e wb ⟨rfl, hbb⟩
          have hbt := (below_then (below_then HB9.out HGA.out) HBAA.out).trans hbb
          have TB := hide (T8.out.below hbt)
          have HPLB := hide (HPL8.out.below hbt)
          obtain ⟨c1, c2, l1, l2⟩ := TB.out.cells
          clear hbb hbt
          go_wp2_with fail
          go_at_call 39
          refine (HC39.out _ _ _ _ TB.out.hb HPLB.out).mono ?_
          rintro e wd ⟨rfl, hbd⟩
          have TD := hide (TB.out.below hbd)
          clear hbd c1 c2 l1 l2
          go_wp2_with (go_at_call 32; refine (works22_at _ TD.out.hb).mono ?_; rintro e wf ⟨rfl, hbf⟩; have HBF := hide hbf; clear hbf)
          go_ret
          exact ⟨rfl, HBF.out⟩
end Go.Proofs.Ytbobjecjopmnfaa
