/- The walks of size and Ready (the reference's 22). -/
import Derived.Test.YtbobjecjopmnfaaKE
namespace Go.Proofs.Ytbobjecjopmnfaa
open Go.RowKit
open Pt (szL sz encL enc roots encL_length roots_length enc_length shift RT)
/-- A tree of a row of trees, seen from a later world. -/
theorem Rds.pt_at {w w' : World} {ok : Nat → Prop} {A : Option Addr} {n c : Nat} {xs : List Pt} (h : Rds El.pt w ok (.slice A n c) xs) (hB : Below w.heap.size w w') {i : Nat} {x : Pt} (hx : xs[i]? = some x) :
    ∃ ad K kc, A = some ad ∧ w'.cell? (ad.add (i * 3)) = some (.int .u8 x.op) ∧ w'.cell? ⟨(ad.add (i * 3)).block, (ad.add (i * 3)).off + 1, none⟩ = some (.int .i64 x.pl) ∧ w'.cell? ⟨(ad.add (i * 3)).block, (ad.add (i * 3)).off + 2, none⟩ = some (.slice K x.kids.length kc) ∧ Rds El.pt w ok (.slice K x.kids.length kc) x.kids := by
  obtain ⟨hi, rfl⟩ := List.getElem?_eq_some_iff.1 hx
  obtain ⟨ad, cs, hA, -, -, hp, hc⟩ := h.get i hi
  obtain ⟨K, kc, he, hk⟩ := El.pt_iff.1 hp
  subst he
  have h0 := hc 0 _ rfl
  have h1 := hc 1 _ rfl
  have h2 := hc 2 _ rfl
  have e : i * El.pt.sz = i * 3 := rfl
  rw [e] at h0 h1 h2
  rw [add_off 1 (by decide)] at h1
  rw [add_off 2 (by decide)] at h2
  exact ⟨ad, K, kc, hA, (hB.cell (World.block_lt_of_cell? w _ h0)).trans h0, (hB.cell (p := ⟨(ad.add (i * 3)).block, (ad.add (i * 3)).off + 1, none⟩) (World.block_lt_of_cell? w _ h1)).trans h1, (hB.cell (p := ⟨(ad.add (i * 3)).block, (ad.add (i * 3)).off + 2, none⟩) (World.block_lt_of_cell? w _ h2)).trans h2, hk⟩
theorem szL_take_next (ks : List Pt) (j : Nat) (p : Pt) (h : ks[j]? = some p) : szL (ks.take (j + 1)) = szL (ks.take j) + sz p := by
  obtain ⟨hj, rfl⟩ := List.getElem?_eq_some_iff.1 h
  rw [List.take_succ_eq_append_getElem hj, Pt.szL_append, szL, szL]
  omega
/-- A number comes back; nothing that was there has turned. -/
def SaysN (n : Int) (w : World) (e : Ending) (w' : World) : Prop := e = .returned (.int .i64 n) ∧ Below w.heap.size w w'
set_option maxHeartbeats 4000000 in
theorem rsize_any : ∀ (N : Nat) (op pl : Int) (ks : List Pt), sz (.mk op pl ks) ≤ N → N ≤ 2000 → RT (.mk op pl ks) → ∀ (ok : Nat → Prop) (A : Option Addr) (c m : Nat) (w : World), m = ks.length → Rds El.pt w ok (.slice A m c) ks →
    Calls Try.prog 65 #[.agg #[.int .u8 op, .int .i64 pl, .slice A m c]] w (SaysN (sz (.mk op pl ks)) w) := by
  intro N
  induction N with
  | zero =>
    intro op pl ks hp
    have := Pt.sz_pos (.mk op pl ks)
    omega
  | succ N ih =>
    intro op pl ks hp hN hr ok A c m w hm h
    have hop : (op == 0) = false := by rw [beq_eq_false_iff_ne]; exact hr.op_ne
    have hsz : sz (.mk op pl ks) = 1 + szL ks := by rw [sz]
    rw [hsz]
    have hrts : RTs ks := fun q hq => by
      rcases RT.cases hr with ⟨_, _, rfl⟩ | ⟨_, _, _, h4⟩
      · cases hq
      · exact (h4 q hq).1
    have HRT := hide hrts
    have HIH := hide ih
    have H := hide h
    have HM := hide hm
    have hks : m ≤ 2000 := by have := szL_ge ks; omega
    have hszl : szL ks ≤ 2000 := by omega
    have HSZ := hide hsz
    have bx := heap_alloc_new w (.cells #[.int .u8 op, .int .i64 pl, .slice A m c] 65 (0, 0))
    have BX := hide bx
    have hp' : szL ks ≤ N := by omega
    clear hrts ih h hr bx hm hsz hp
    go_enter Try.func65, Try.ntmps65
    go_wp2
    go_loopw [3, 4] (fun nv iv wr => ∃ j : Nat, j ≤ m ∧ iv = .int .i64 j ∧ nv = .int .i64 ((1 + szL (ks.take j) : Nat) : Int) ∧ Hid (Below (w.alloc (.cells #[.int .u8 op, .int .i64 pl, .slice A m c] 65)).heap.size (w.alloc (.cells #[.int .u8 op, .int .i64 pl, .slice A m c] 65)) wr)) (fun _ i _ => m - (intOf i).toNat)
    case atStart => exact ⟨0, Nat.zero_le _, rfl, rfl, Below.refl _ _⟩
    case round =>
      obtain ⟨j, hj, rfl, rfl, HB⟩ := hrel
      have bw := box_same BX.out HB.out
      have b0 := blk_cell bw 0
      have b2 := blk_cell bw 2
      have bl := blk_lt bw
      simp at b0 b2
      clear bw
      have HBW := hide (below_then ((Below.refl w.heap.size w).alloc (Nat.le_refl _) (.cells #[.int .u8 op, .int .i64 pl, .slice A m c] 65)) HB.out)
      by_cases hlt2 : j < m
      · obtain ⟨p, hpj⟩ : ∃ p, ks[j]? = some p := ⟨_, List.getElem?_eq_getElem (by rw [← HM.out]; exact hlt2)⟩
        obtain ⟨ad, K, kc, hA, x0, x1, x2, hk⟩ := H.out.pt_at HBW.out hpj
        have hnx := szL_take_next ks j p hpj
        have hle := szL_take_le ks j p hpj
        have hrp := HRT.out p (List.mem_of_getElem? hpj)
        obtain ⟨po, pp, pk⟩ := p
        have hc := HIH.out po pp pk (by omega) (by omega) hrp ok K kc pk.length wr rfl (hk.below HBW.out)
        simp only [Pt.op, Pt.pl, Pt.kids] at x0 x1 x2
        have HC := hide hc
        have HNX := hide hnx
        obtain ⟨s, hs⟩ : ∃ s, s = sz (.mk po pp pk) := ⟨_, rfl⟩
        obtain ⟨t, ht⟩ : ∃ t, t = 1 + szL (ks.take j) := ⟨_, rfl⟩
        rw [← hs] at HC HNX hle
        have ht2 : t + s ≤ 2001 := by omega
        rw [← ht]
        have HT := hide ht
        subst hA
        clear hpj hc hk hnx hrp hs hle ht
        go_wp2_with (go_at_call 65; refine HC.out.mono ?_; rintro e w2 ⟨rfl, hb2⟩; have HB2 := hide (below_then HB.out hb2); clear hb2)
        go_roundw
        case rel => exact ⟨j + 1, by omega, by go_num, by rw [HNX.out]; have := HT.out; congr 1; omega, HB2.out⟩
        case measure => simp [intOf]; omega
      · obtain rfl : j = m := by omega
        have hfin : ks.take j = ks := List.take_of_length_le (by rw [← HM.out]; exact Nat.le_refl _)
        rw [hfin]
        clear hfin
        go_wp2
        go_ret
        exact ⟨rfl, HBW.out⟩
/-- Ready of the reference: a row of the call's own. -/
theorem readyT_first (p : Pt) (ps : List Pt) (off : Nat) (op pl : Int) (h : op = 1) : readyT off (.mk op pl (p :: ps)) = readyT off p := by
  subst h
  rw [readyT, if_neg (by omega)]
  exact readyL_first p ps off
set_option maxHeartbeats 8000000 in
theorem rready_any : ∀ (N : Nat) (op pl : Int) (ks : List Pt), sz (.mk op pl ks) ≤ N → N ≤ 500 → RT (.mk op pl ks) → ∀ (off : Nat), off + sz (.mk op pl ks) ≤ 5000 → ∀ (ok : Nat → Prop) (A : Option Addr) (c m : Nat) (w : World), m = ks.length → Rds El.pt w ok (.slice A m c) ks →
    Calls Try.prog 35 #[.agg #[.int .u8 op, .int .i64 pl, .slice A m c], .int .i64 off] w (MadeI (readyT off (.mk op pl ks)) w) := by
  intro N
  induction N with
  | zero =>
    intro op pl ks hp
    have := Pt.sz_pos (.mk op pl ks)
    omega
  | succ N ih =>
    intro op pl ks hp hN hr off hoff ok A c m w hm h
    have hsz : sz (.mk op pl ks) = 1 + szL ks := by rw [sz]
    rcases RT.cases hr with ⟨h3, h7, rfl⟩ | ⟨h1, rfl, h2, h4⟩
    · have hrd : readyT off (.mk op pl []) = [(off : Int)] := by rw [readyT, if_pos h3]
      rw [hrd]
      clear hr h ih hm hsz hp
      go_enter Try.func35, Try.ntmps35
      go_wp2_with (at_builtin; refine wpList_append_int _ rfl (.tmp 10) (.tmp 12) rfl none 0 0 [] rfl (Row.nil _ _ _) _ off rfl (blk_new (by simp)) (by omega) ?_; intro B' cb' w3 hrow3 honly3 hfp3; have HR3 := hide hrow3; have HO3 := hide honly3; have HF3 := hide hfp3; clear hrow3 honly3 hfp3)
      go_ret
      refine ⟨B', cb', rfl, HR3.out, fun b hb => ?_, ?_⟩
      · rcases HF3.out b hb with h | h
        · exact (Fp_none h).elim
        · simp at h
          omega
      · exact (((Below.refl _ _).alloc (Nat.le_refl _) _).alloc (by simp) _).trans (HO3.out.below (fun b hb => (Fp_none hb).elim) (by simp; omega))
    · have hrts : RTs ks := fun q hq => (h4 q hq).1
      have HRT := hide hrts
      have HIH := hide ih
      have H := hide h
      have HM := hide hm
      rw [hsz] at hoff
      have HSZ := hide hsz
      have HOP := hide h1
      have hks : m ≤ 500 := by have := szL_ge ks; omega
      have hszl : szL ks ≤ N := by omega
      have hm0 : 0 < m := by omega
      have n3 : ¬ 3 ≤ op := by omega
      have bx := heap_alloc_new w (.cells #[.int .u8 op, .int .i64 0, .slice A m c] 65 (0, 0))
      have BX := hide bx
      -- what is told after j parts
      obtain ⟨f, hf⟩ : ∃ f : Nat → List Int, ∀ j, f j = if op = 2 then readyL true off (ks.take j) else readyL true off (ks.take (min j 1)) := ⟨_, fun _ => rfl⟩
      have hf0 : f 0 = [] := by rw [hf]; split <;> simp [readyL]
      have hfm : f m = readyT off (.mk op 0 ks) := by
        rw [hf]
        rcases h1 with e | e
        · rw [if_neg (by omega)]
          obtain ⟨p, ps, rfl⟩ : ∃ p ps, ks = p :: ps := by
            cases ks with
            | nil => simp at h2
            | cons a t => exact ⟨a, t, rfl⟩
          rw [readyT_first p ps off op 0 e, Nat.min_eq_right (by omega)]
          simp [readyL]
        · rw [if_pos e, hm, List.take_length, readyT, if_neg n3, e]
          rfl
      have hfs : ∀ j p, ks[j]? = some p → f (j + 1) = if op = 2 ∨ j = 0 then f j ++ readyT (off + szL (ks.take j)) p else f j := fun j p hp => by
        rw [hf, hf]
        by_cases e : op = 2
        · rw [if_pos e, if_pos e, if_pos (.inl e), readyL_next ks off j p hp]
        · rw [if_neg e, if_neg e]
          by_cases ej : j = 0
          · subst ej
            rw [if_pos (.inr rfl)]
            show readyL true off (ks.take (0 + 1)) = readyL true off (ks.take 0) ++ _
            rw [readyL_next ks off 0 p hp]
          · rw [if_neg (by omega), show min (j + 1) 1 = 1 by omega, show min j 1 = 1 by omega]
      have hfl : ∀ j, (f j).length ≤ 500 := fun j => by
        rw [hf]
        have key : ∀ i, szL (ks.take i) ≤ szL ks := fun i => by
          have := congrArg szL (List.take_append_drop i ks)
          rw [Pt.szL_append] at this
          omega
        split
        · have := readyL_len true (ks.take j) off
          have := key j
          omega
        · have := readyL_len true (ks.take (min j 1)) off
          have := key (min j 1)
          omega
      rw [← hfm]
      have HF0 := hide hf0
      have HFS := hide hfs
      have HFL := hide hfl
      clear hrts ih h hr bx hm hsz hp hf hf0 hfm hfs hfl h4 h2 h1
      go_enter Try.func35, Try.ntmps35
      go_wp2
      go_loopw [1, 5, 6] (fun bv ov iv wr => ∃ (j b q : Nat) (B : Option Addr) (cb : Nat), j ≤ m ∧ iv = .int .i64 j ∧ b = off + szL (ks.take j) ∧ bv = .int .i64 b ∧ q = (f j).length ∧ ov = .slice B q cb ∧ Hid (Row wr 3 1 (.slice B q cb) q (ints (f j))) ∧ Hid (∀ b, Fp (.slice B q cb) b → (w.alloc (.cells #[.int .u8 op, .int .i64 0, .slice A m c] 65)).heap.size ≤ b) ∧ Hid (Below (w.alloc (.cells #[.int .u8 op, .int .i64 0, .slice A m c] 65)).heap.size (w.alloc (.cells #[.int .u8 op, .int .i64 0, .slice A m c] 65)) wr)) (fun _ _ i _ => m - (intOf i).toNat)
      case atStart => exact ⟨0, off, 0, none, 0, Nat.zero_le _, rfl, by simp [szL], rfl, by rw [HF0.out]; rfl, rfl, by rw [HF0.out]; exact Row.nil _ _ _, fun b hb => (Fp_none hb).elim, Below.refl _ _⟩
      case round =>
        obtain ⟨j, b, q, B, cb, hj, rfl, hb, rfl, hq, rfl, R, RF, HB⟩ := hrel
        have bw := box_same BX.out HB.out
        have b0 := blk_cell bw 0
        have b2 := blk_cell bw 2
        have bl := blk_lt bw
        simp at b0 b2
        have HBW := hide (below_then ((Below.refl w.heap.size w).alloc (Nat.le_refl _) (.cells #[.int .u8 op, .int .i64 0, .slice A m c] 65)) HB.out)
        have hq5 : q ≤ 500 := by rw [hq]; exact HFL.out j
        have HQ := hide hq
        have HBB := hide hb
        have BW := hide bw
        clear bw hq hb
        by_cases hlt2 : j < m
        · obtain ⟨p, hpj⟩ : ∃ p, ks[j]? = some p := ⟨_, List.getElem?_eq_getElem (by rw [← HM.out]; exact hlt2)⟩
          obtain ⟨ad, K, kc, hA, y0, y1, y2, hk⟩ := H.out.pt_at (Below.refl _ _) hpj
          have hnx := szL_take_next ks j p hpj
          have hle := szL_take_le ks j p hpj
          have hrp := HRT.out p (List.mem_of_getElem? hpj)
          have hst := HFS.out j p hpj
          have hlen := HFL.out (j + 1)
          obtain ⟨po, pp, pk⟩ := p
          have hbb := HBB.out
          have hb1 : b ≤ 5000 := by omega
          have hc := HIH.out po pp pk (by omega) (by omega) hrp b (by omega) ok K kc pk.length wr rfl (hk.below HBW.out)
          have hsz1 := fun (W : World) (hB : Below w.heap.size w W) => rsize_any 2000 po pp pk (by omega) (by omega) hrp ok K kc pk.length W rfl (hk.below hB)
          rw [← hbb] at hst
          simp only [Pt.op, Pt.pl, Pt.kids] at y0 y1 y2
          have hcells := fun (W : World) (hB : Below w.heap.size w W) => And.intro ((hB.cell (World.block_lt_of_cell? w _ y0)).trans y0) (And.intro ((hB.cell (p := ⟨(ad.add (j * 3)).block, (ad.add (j * 3)).off + 1, none⟩) (World.block_lt_of_cell? w _ y1)).trans y1) ((hB.cell (p := ⟨(ad.add (j * 3)).block, (ad.add (j * 3)).off + 2, none⟩) (World.block_lt_of_cell? w _ y2)).trans y2))
          obtain ⟨x0, x1, x2⟩ := hcells _ HBW.out
          have HX := hide hcells
          clear y0 y1 y2 hcells
          obtain ⟨s, hs⟩ : ∃ s, s = sz (.mk po pp pk) := ⟨_, rfl⟩
          obtain ⟨rd, hrd⟩ : ∃ rd, rd = readyT b (.mk po pp pk) := ⟨_, rfl⟩
          rw [← hs] at hnx hle hsz1
          rw [← hrd] at hst hc
          obtain ⟨r, hr⟩ : ∃ r, r = rd.length := ⟨_, rfl⟩
          have hc2 := hc.mono (R' := fun e w' => ∃ A c, e = .returned (.slice A r c) ∧ Row w' 3 1 (.slice A r c) r (ints rd) ∧ Below wr.heap.size wr w') (fun e w' ⟨A, c, he, h1, _, h3⟩ => ⟨A, c, by rw [hr]; exact he, by rw [hr]; exact h1, h3⟩)
          have hbs : b + s ≤ 5000 := by omega
          have HC := hide hc2
          have HSI := hide hsz1
          have HNX := hide hnx
          have HST := hide hst
          have HRL := hide hr
          have hr5 : (op = 2 ∨ j = 0) → r ≤ 500 := fun h => by
            have h1 := hlen
            rw [hst, if_pos h, List.length_append] at h1
            omega
          subst hA
          clear hpj hc hc2 hk hnx hrp hs hle hst hrd hr hsz1 hbb hlen
          have hcase : ((op == 2) = true ∧ (op = 2 ∨ j = 0)) ∨ ((op == 2) = false ∧ ((j : Int) == 0) = true ∧ (j == 0) = true ∧ (op = 2 ∨ j = 0)) ∨ ((op == 2) = false ∧ ((j : Int) == 0) = false ∧ (j == 0) = false ∧ ¬ (op = 2 ∨ j = 0)) := by
            rcases HOP.out with e | e
            · by_cases ej : j = 0
              · right; left
                refine ⟨by rw [beq_eq_false_iff_ne]; omega, by rw [beq_iff_eq]; omega, by rw [beq_iff_eq]; exact ej, .inr ej⟩
              · right; right
                refine ⟨by rw [beq_eq_false_iff_ne]; omega, by rw [beq_eq_false_iff_ne]; omega, by rw [beq_eq_false_iff_ne]; exact ej, by omega⟩
            · left
              exact ⟨by rw [beq_iff_eq]; exact e, .inl e⟩
          rcases hcase with ⟨e2, hcond⟩ | ⟨e2, e3, e4, hcond⟩ | ⟨e2, e3, e4, hcond⟩
          rotate_left 2
          · -- not told
            have HCD := hide hcond
            clear hr5 hcond HC
            go_wp2_with (go_at_call 65; refine (HSI.out _ HBW.out).mono ?_; rintro e w4 ⟨rfl, hb4⟩; have HB4 := hide hb4; clear hb4)
            go_roundw
            case rel =>
              refine ⟨j + 1, b + s, q, B, cb, by omega, by go_num, by rw [HNX.out, HBB.out]; omega, by go_num, ?_, rfl, ?_, RF.out, below_then HB.out HB4.out⟩
              · rw [HST.out, if_neg HCD.out]
                exact HQ.out
              · rw [HST.out, if_neg HCD.out]
                exact R.out.below HB4.out
            case measure => simp [intOf]; omega
          all_goals
            have hr6 := hr5 hcond
            have HCD := hide hcond
            clear hr5 hcond
            go_wp2_with (first | (go_at_call 35; refine HC.out.mono ?_; rintro e w2 ⟨A2, c2, rfl, hrow2, hb2⟩; have bw2 := box_same BW.out hb2; have d0 := blk_cell bw2 0; have d2 := blk_cell bw2 2; have dl := blk_lt bw2; simp at d0 d2; have BW2 := hide bw2; have HR2 := hide hrow2; have HB2 := hide hb2; clear hb2 hrow2 bw2) | (at_builtin; refine wpList_append_row _ rfl (.tmp 28) (.tmp 35) 36 3 rfl _ 1 8 Try.underlying36 inf3 rfl (by decide) (by decide) (.slice B q cb) q (ints (f j)) rfl (R.out.below HB2.out) (fun _ => True) (.slice A2 r c2) r (ints rd) rfl (HR2.out.rd (fun _ _ => trivial)) ints_one (by omega) ?_; intro B' cb' w3 hrow3 honly3 hfp3; have bw3 := box_only BW2.out honly3 ((R.out.below HB2.out).ne_ BW2.out (by decide)); have g0 := blk_cell bw3 0; have g2 := blk_cell bw3 2; have gl := blk_lt bw3; simp at g0 g2; have HB0 := hide (below_then HB.out HB2.out); have HB3 := hide (HB0.out.trans (honly3.below RF.out HB0.out.size)); have HBW3 := hide (below_then ((Below.refl w.heap.size w).alloc (Nat.le_refl _) _) HB3.out); obtain ⟨z0, z1, z2⟩ := HX.out _ HBW3.out; have HR3 := hide hrow3; have HF3 := hide hfp3; clear hrow3 honly3 hfp3 bw3) | (go_at_call 65; refine (HSI.out _ HBW3.out).mono ?_; rintro e w4 ⟨rfl, hb4⟩; have HB4 := hide hb4; clear hb4))
            go_roundw
            case rel =>
              refine ⟨j + 1, b + s, q + r, B', cb', by omega, by go_num, by rw [HNX.out, HBB.out]; omega, by go_num, ?_, rfl, ?_, fun x hx => ?_, below_then HB3.out HB4.out⟩
              · rw [HST.out, if_pos HCD.out, List.length_append, ← HQ.out, ← HRL.out]
              · rw [HST.out, if_pos HCD.out, ints_append]
                exact HR3.out.below HB4.out
              · rcases HF3.out x hx with h | h
                · exact RF.out x h
                · exact Nat.le_trans HB0.out.size h
            case measure => simp [intOf]; omega
        · obtain rfl : j = m := by omega
          have HQ2 := hide HQ.out
          go_wp2
          go_ret
          obtain rfl : q = (f j).length := HQ2.out
          refine ⟨B, cb, rfl, R.out, fun x hx => ?_, HBW.out⟩
          have := RF.out x hx
          simp at this
          omega
end Go.Proofs.Ytbobjecjopmnfaa
