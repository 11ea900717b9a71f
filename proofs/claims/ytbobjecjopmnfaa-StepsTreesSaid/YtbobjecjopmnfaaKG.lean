/- The walk of StepsAll. -/
import Derived.Test.YtbobjecjopmnfaaKE
import Derived.Test.YtbobjecjopmnfaaKF
namespace Go.Proofs.Ytbobjecjopmnfaa
open Go.RowKit
open Pt (szL sz encL enc roots encL_length roots_length enc_length shift RT)
theorem works22_at {w : World} (W : World) (hB : Below w.heap.size w W) : Calls Try.prog 32 #[] W fun e w' => e = .returned (.bool true) ∧ Below w.heap.size w w' :=
  (works22_any W).mono fun _ _ ⟨h1, h2⟩ => ⟨h1, below_then hB h2⟩
theorem MadeT.into {w W w' : World} {l : List Nd} {e : Ending} {cs : Array Value} {g : Nat} (hB : Below w.heap.size w W) (hw : w.heap.size ≤ g) (hg : W.heap[g]? = some (.cells cs 59 (0, 0))) (h : MadeT l W e w') :
    ∃ A c, e = .returned (.agg #[.slice A l.length c]) ∧ w'.heap[g]? = some (.cells cs 59 (0, 0)) ∧ (w'.setCell ⟨g, 0, none⟩ (.slice A l.length c)).heap[g]? = some (.cells (cs.setIfInBounds 0 (.slice A l.length c)) 59 (0, 0)) ∧
      Rds El.nd (w'.setCell ⟨g, 0, none⟩ (.slice A l.length c)) (fun _ => True) (.slice A l.length c) l ∧ Below w.heap.size w (w'.setCell ⟨g, 0, none⟩ (.slice A l.length c)) := by
  obtain ⟨A, c, rfl, h1, h2⟩ := h
  have hg' := box_same hg h2
  exact ⟨A, c, rfl, hg', blk_set hg' 0 _, (h1.poke hg' (by decide) (by decide) _).rds.to_nd.mono (fun _ _ _ => trivial), (below_then hB h2).setCell hw _⟩
set_option maxHeartbeats 4000000 in
theorem stepsAll_not {okt : Nat → Prop} {A P : Option Addr} {c pc pn : Nat} (l : List Nd) (w : World) (h : Rds El.nd w okt (.slice A l.length c) l) (hn : Few22 l → pn ≤ 80 → rightB l = false) :
    Calls Try.prog 10 #[.agg #[.slice A l.length c], .slice P pn pc] w (SaysB true w) := by
  have hfew := fun (W : World) (hB : Below w.heap.size w W) => few22_any l W (h.below hB)
  have hright := fun (W : World) (hB : Below w.heap.size w W) (hf : Fits22 l) => right_any l W (h.below hB) hf
  have HFW := hide hfew
  have HR := hide hright
  have HN := hide hn
  clear hfew hright hn h
  have i0 : (w.alloc (.cells #[.slice A l.length c] 59)).heap[w.heap.size]? = some (.cells #[.slice A l.length c] 59 (0, 0)) := heap_alloc_new _ _
  have I0 := hide i0
  clear i0
  go_enter Try.func10, Try.ntmps10
  go_wp2_with fail
  go_at_call 31
  refine (HFW.out _ ((Below.refl _ _).alloc (Nat.le_refl _) _)).mono ?_
  rintro e w1 ⟨b, rfl, hbf, hb1⟩
  have HBF := hide hbf
  have HB1 := hide (below_then ((Below.refl w.heap.size w).alloc (Nat.le_refl _) (.cells #[.slice A l.length c] 59)) hb1)
  have BX1 := hide (box_same I0.out hb1)
  have c1 := blk_cell BX1.out 0
  have l1 := blk_lt BX1.out
  simp at c1
  clear I0 hb1 hbf
  cases b with
  | false =>
    go_wp2_with (go_at_call 32; refine (works22_at _ HB1.out).mono ?_; rintro e w9 ⟨rfl, hb9⟩; have HB9 := hide hb9; clear hb9)
    go_ret
    exact ⟨rfl, HB9.out⟩
  | true =>
    by_cases hp : pn ≤ 80
    · have hf := HBF.out rfl
      have hrf := HN.out hf hp
      have hr := HR.out _ HB1.out ⟨by have := hf.1; omega, fun n hn => by have := hf.2 n hn; omega⟩
      rw [hrf] at hr
      have HRR := hide hr
      clear hf hrf hr
      go_wp2_with (first | (go_at_call 41; refine HRR.out.mono ?_; rintro e w2 ⟨rfl, hb2⟩; have HB2 := hide (below_then HB1.out hb2); clear hb2) | (go_at_call 32; refine (works22_at _ HB2.out).mono ?_; rintro e w9 ⟨rfl, hb9⟩; have HB9 := hide hb9; clear hb9))
      go_ret
      exact ⟨rfl, HB9.out⟩
    · have hp' : 80 < pn := by omega
      clear hp
      go_wp2_with (go_at_call 32; refine (works22_at _ HB1.out).mono ?_; rintro e w9 ⟨rfl, hb9⟩; have HB9 := hide hb9; clear hb9)
      go_ret
      exact ⟨rfl, HB9.out⟩
set_option maxRecDepth 20000 in
set_option maxHeartbeats 16000000 in
theorem stepsAll_any {okt okp : Nat → Prop} {A P : Option Addr} {c pc pn : Nat} (q0 : Pt) (picks : List Int) (w : World) (hq : TN q0) (h : Rds El.nd w okt (.slice A (encO q0).length c) (encO q0)) (hpn : pn = picks.length) (hp : Rds El.int w okp (.slice P pn pc) picks) (hp8 : pn ≤ 80)
    (hl : (encO q0).length ≤ 60) (hfew : ∀ W, Below w.heap.size w W → Calls Try.prog 31 #[.agg #[.slice A (encO q0).length c]] W fun e w' => ∃ b : Bool, e = .returned (.bool b) ∧ Below W.heap.size W w') :
    Calls Try.prog 10 #[.agg #[.slice A (encO q0).length c], .slice P pn pc] w (SaysB true w) := by
  have hfit := encO_fits hq (by unfold lenO; omega)
  have hrb : rightB (encO q0) = true := (rightB_iff _).2 (by
    rcases hq with rfl | h
    · exact .inl rfl
    · exact .inr ⟨q0, h, encO_RT h⟩)
  have hright := fun W hB => right_any (encO q0) W (h.below hB) hfit.fits
  rw [hrb] at hright
  have H := hide h
  have HP := hide hp
  have HR := hide hright
  have HFW := hide hfew
  have HPN := hide hpn
  have HQ := hide hq
  have hops := encO_ops hq
  have HOPS := hide hops
  obtain ⟨l, hle⟩ : ∃ l, l = encO q0 := ⟨_, rfl⟩
  rw [← hle] at H HR HFW HOPS hl ⊢
  have HLE := hide hle
  clear h hp hright hfew hfit hrb hpn hq hle hops
  have i0 : (w.alloc (.cells #[.slice A l.length c] 59)).heap[w.heap.size]? = some (.cells #[.slice A l.length c] 59 (0, 0)) := heap_alloc_new _ _
  have I0 := hide i0
  clear i0
  go_enter Try.func10, Try.ntmps10
  go_wp2_with fail
  go_at_call 31
  refine (HFW.out _ ((Below.refl _ _).alloc (Nat.le_refl _) _)).mono ?_
  rintro e w1 ⟨b, rfl, hb1⟩
  have HB1 := hide (below_then ((Below.refl w.heap.size w).alloc (Nat.le_refl _) (.cells #[.slice A l.length c] 59)) hb1)
  have BX1 := hide (box_same I0.out hb1)
  have c1 := blk_cell BX1.out 0
  have l1 := blk_lt BX1.out
  simp at c1
  clear I0 hb1
  cases b with
  | false =>
    go_wp2_with (go_at_call 32; refine (works22_at _ HB1.out).mono ?_; rintro e w9 ⟨rfl, hb9⟩; have HB9 := hide hb9; clear hb9)
    go_ret
    exact ⟨rfl, HB9.out⟩
  | true =>
    go_wp2_with fail
    go_at_call 41
    refine (HR.out _ HB1.out).mono ?_
    rintro e w2 ⟨rfl, hb2⟩
    have HB2 := hide (below_then HB1.out hb2)
    have BX2 := hide (box_same BX1.out hb2)
    have c2 := blk_cell BX2.out 0
    have l2 := blk_lt BX2.out
    simp at c2
    clear hb2 c1 l1 BX1 HB1
    go_wp2_with fail
    go_loop [5, 6, 7, 8] (fun lv sv ov iv => ∃ (i : Nat) (s : Int), i ≤ l.length ∧ iv = .int .i64 i ∧ lv = .int .i64 ((leavesR (l.take i)).length : Int) ∧ sv = .int .i64 s ∧ ov = .int .i64 (sum1 (leavesR (l.take i))) ∧ Hid (Word s (sum2 (leavesR (l.take i))))) (fun _ _ _ iv => l.length - (intOf iv).toNat)
    case atStart => exact ⟨0, 0, Nat.zero_le _, rfl, rfl, rfl, rfl, Word.zero⟩
    case round =>
      obtain ⟨i, s, hi, rfl, rfl, rfl, rfl, HW⟩ := hrel
      by_cases hlt2 : i < l.length
      · obtain ⟨n, hn⟩ : ∃ n, l[i]? = some n := ⟨_, List.getElem?_eq_getElem hlt2⟩
        obtain ⟨ad, K, kc, hA, x0, x1, x2, hk⟩ := H.out.nd_at HB2.out hn
        have hno := HOPS.out n (List.mem_of_getElem? hn)
        have hnx := leavesR_next hn
        have hlen := leavesR_length (l.take i)
        have hb := sum1_bound (leavesR_ops (l := l.take i) (fun n hn => HOPS.out n (List.mem_of_mem_take hn)))
        rw [List.length_take] at hlen
        have HNX := hide hnx
        clear hnx hk hn
        obtain ⟨no, np, nk⟩ := n
        simp only at x0 x1 x2 hno HNX
        obtain ⟨ln, hln⟩ : ∃ ln, ln = (leavesR (l.take i)).length := ⟨_, rfl⟩
        obtain ⟨on, hon⟩ : ∃ on, on = sum1 (leavesR (l.take i)) := ⟨_, rfl⟩
        rw [← hln] at hlen hb ⊢
        rw [← hon] at hb ⊢
        have HLN := hide hln
        have HON := hide hon
        subst hA
        clear hln hon
        obtain ⟨ho1, ho7⟩ := hno
        obtain ⟨hb0, hb7⟩ := hb
        have hln60 : ln ≤ 60 := by omega
        by_cases h3 : 3 ≤ no
        · have h3' := h3
          go_wp2
          go_round
          case rel =>
            refine ⟨i + 1, wrap64 (s + np), by omega, by go_num, ?_, rfl, ?_, ?_⟩
            · rw [HNX.out, if_pos (by omega), List.length_append, ← HLN.out]
              go_num
            · rw [HNX.out, if_pos (by omega), sum1_append, ← HON.out]
              simp [sum1]
            · rw [HNX.out, if_pos (by omega), sum2_append]
              show Word _ (_ + sum2 [(no, np)])
              rw [show sum2 [(no, np)] = np by simp [sum2]]
              exact HW.out.add
          case measure => simp [intOf]; omega
        · go_wp2
          go_round
          case rel =>
            refine ⟨i + 1, s, by omega, by go_num, ?_, rfl, ?_, ?_⟩
            · rw [HNX.out, if_neg (by omega), List.append_nil, ← HLN.out]
            · rw [HNX.out, if_neg (by omega), List.append_nil, ← HON.out]
            · rw [HNX.out, if_neg (by omega), List.append_nil]
              exact HW.out
          case measure => simp [intOf]; omega
      · obtain rfl : i = l.length := by omega
        rw [List.take_length]
        have hlv : leavesR l = lv q0 := by rw [HLE.out]; exact lv_encO HQ.out
        have hW := HW.out
        rw [List.take_length] at hW
        rw [hlv] at hW ⊢
        obtain ⟨L, hL⟩ : ∃ L, L = (lv q0).length := ⟨_, rfl⟩
        have hL60 : L ≤ 60 := by rw [hL, ← hlv]; have := leavesR_length l; omega
        rw [← hL]
        have HW0 := hide hW
        have HL := hide hL
        have hl60 : lenO q0 ≤ 60 := by unfold lenO; rw [← HLE.out]; exact hl
        have hrq : Rds El.nd w2 (fun _ => True) (.slice A (encO q0).length c) (encO q0) := by
          have := (H.out.below HB2.out).mono (ok' := fun _ => True) (fun _ _ _ => trivial)
          rwa [HLE.out] at this
        have hbq : w2.heap[w.heap.size]? = some (.cells #[.slice A (encO q0).length c] 59 (0, 0)) := by
          have := BX2.out
          rwa [HLE.out] at this
        have HRQ := hide hrq
        have HBQ := hide hbq
        have HL60 := hide hl60
        clear hW hL hlv hl60 hrq hbq HW hlt2 hi
        go_wp2
        go_loopw [6, 7, 9] (fun sv ov nv wr => ∃ (q : Pt) (m : Nat) (s : Int) (CA : Option Addr) (cc : Nat), nv = .int .i64 m ∧ sv = .int .i64 s ∧ ov = .int .i64 (sum1 (lv q)) ∧ Hid (TN q ∧ lenO q ≤ 60 ∧ m + (lv q).length = L ∧ Word s (sum2 (lv q)) ∧ wr.heap[w.heap.size]? = some (.cells #[.slice CA (encO q).length cc] 59 (0, 0)) ∧ Rds El.nd wr (fun _ => True) (.slice CA (encO q).length cc) (encO q) ∧ Below w.heap.size w wr)) (fun _ _ nv _ => L - (intOf nv).toNat)
        case atStart => exact ⟨q0, 0, s, A, c, rfl, rfl, rfl, HQ.out, HL60.out, by rw [HL.out]; omega, HW0.out, HBQ.out, HRQ.out, HB2.out⟩
        case round =>
          clear HW0 HBQ HRQ HL60 c2 l2
          obtain ⟨q, m, s, CA, cc, rfl, rfl, rfl, HH⟩ := hrel
          obtain ⟨htn, hq60, hmL, -, hbx, hrd, hbw⟩ := HH.out
          have b0 := blk_cell hbx 0
          have bf := blk_frozen hbx 0
          have bl := blk_lt hbx
          simp at b0
          have hlvl : (lv q).length ≤ 60 := by omega
          by_cases hq0 : q = Pt.nil
          · subst hq0
            have hm : m = L := by
              have : (lv Pt.nil).length = 0 := rfl
              omega
            have hs : s = 0 := (HH.out.2.2.2.1 : Word s 0).is0
            have e1 : sum1 (lv Pt.nil) = 0 := rfl
            have e2 : (encO Pt.nil).length = 0 := rfl
            rw [e1]
            rw [e2] at b0
            subst hs; subst hm
            have HBW := hide hbw
            clear e1 e2 htn hq60 hmL hbx hrd hbw hlvl
            go_wp2_with (go_at_call 32; refine (works22_at _ HBW.out).mono ?_; rintro e w9 ⟨rfl, hb9⟩; have HB9 := hide hb9; clear hb9)
            go_ret
            exact ⟨rfl, HB9.out⟩
          · have hrt : RT q := htn.resolve_left hq0
            have hfit := encO_fits htn (by omega)
            have hrdy := ready_right (encO q) q wr hrd hfit.fits hrt (encO_RT hrt)
            have hrl := readyT_len q 0
            have hrn0 := readyT_ne q 0 hrt
            have hln : (encO q).length = lenO q := rfl
            have hsz : lenO q = sz q := lenO_RT hrt
            have htake := fun (W : World) (hB : Below wr.heap.size wr W) (leaf : Int) (hm : leaf ∈ readyT 0 q) => take_real (BA := none) (bc := 0) (okb := fun _ => True) (encO q) q Pt.nil leaf W (hrd.below hB) Rds.nil hrt (encO_RT hrt) hfit.fits (by omega) (.inl rfl) (by decide) hm
            have hone := fun (leaf : Int) (hm : leaf ∈ readyT 0 q) => take_one hrt hm
            have hbd := sum1_bound (leavesR_ops (encO_ops htn))
            rw [lv_encO htn] at hbd
            have hlvp : 0 < (lv q).length := by
              cases hc : readyT 0 q with
              | nil => exact absurd hc hrn0
              | cons a t =>
                obtain ⟨_, _, _, _, _, _, _, h8, _⟩ := hone a (by rw [hc]; exact .head _)
                omega
            obtain ⟨rd, hrd'⟩ : ∃ rd, rd = readyT 0 q := ⟨_, rfl⟩
            rw [← hrd'] at hrdy hrl hrn0 htake hone
            obtain ⟨rn, hrn⟩ : ∃ rn, rn = rd.length := ⟨_, rfl⟩
            have hrn1 : 0 < rn := by rw [hrn]; exact List.length_pos_iff.2 hrn0
            have hrn60 : rn ≤ 60 := by omega
            obtain ⟨so, hso⟩ : ∃ so, so = sum1 (lv q) := ⟨_, rfl⟩
            rw [← hso] at hbd ⊢
            obtain ⟨qn, hqn⟩ : ∃ qn, qn = (encO q).length := ⟨_, rfl⟩
            have hx : wr.heap[w.heap.size]? = some (.cells #[.slice CA qn cc] 59 (0, 0)) := by rw [hqn]; exact hbx
            have hq60' : qn ≤ 60 := by omega
            have hqp : 0 < qn := by have := Pt.sz_pos q; omega
            have hrd2 : Rds El.nd wr (fun _ => True) (.slice CA qn cc) (encO q) := by rw [hqn]; exact hrd
            rw [← hqn] at b0 hrdy htake
            rw [show (encO Pt.nil).length = 0 from rfl] at htake
            have HX := hide hx
            have HRDY := hide (hrdy.mono (fun _ _ h => MadeI.get (r := rd) rfl hrn h))
            have HTK := hide htake
            have HONE := hide hone
            have HRN := hide hrn
            have HQN := hide hqn
            have HSO := hide hso
            have HRD := hide hrd2
            have HBW := hide hbw
            have hmlt : m < L := by omega
            have r0 : ((rn : Int) == 0) = false := by rw [beq_eq_false_iff_ne]; omega
            have r1 : (rn == 0) = false := by rw [beq_eq_false_iff_ne]; omega
            have HML := hide hmL
            have HLV := hide hlvl
            obtain ⟨hs0, hs7⟩ := hbd
            have hs420 : so ≤ 420 := by omega
            clear htn hq60 hmL hbx hrd hbw hlvl hq0 hrt hfit hrdy hrl hrn0 hln hsz htake hone hlvp hrd' hrn hso hqn hx hrd2 hs7
            go_upto_if 76 with (go_at_call 42; refine HRDY.out.mono ?_; rintro e w3 ⟨RA, rc, rfl, hrow, hb3⟩; have bx3 := box_same HX.out hb3; have c3 := blk_cell bx3 0; have f3 := blk_frozen bx3 0; have l3 := blk_lt bx3; simp at c3; have BX3 := hide bx3; have HROW := hide hrow; have HB3 := hide hb3; clear hb3 hrow bx3 b0 bf bl)
            go_cut [11] (fun kv wx => ∃ k : Nat, k < rn ∧ kv = .int .i64 k ∧ wx = w3)
            case first =>
              by_cases hpk : m < pn
              · obtain ⟨pad, hpad, -, -, p0⟩ := (HP.out.below (HBW.out.trans (HB3.out.mono HBW.out.size))).int m (by rw [← HPN.out]; exact hpk)
                obtain ⟨x, hx⟩ : ∃ x, x = picks[m]'(by rw [← HPN.out]; exact hpk) := ⟨_, rfl⟩
                rw [← hx] at p0
                subst hpad
                clear hx
                go_wp2_with (go_at_call 18; refine (pick_any x _ rn (by omega) (by omega)).mono ?_; rintro e w' ⟨rfl, rfl⟩)
                go_meet
                case rel =>
                  have h1 := Int.emod_nonneg x (b := (rn : Int)) (by omega)
                  have h2 := Int.emod_lt_of_pos x (b := (rn : Int)) (by omega)
                  exact ⟨(x % (rn : Int)).toNat, by omega, by rw [Int.toNat_of_nonneg h1], rfl⟩
              · go_wp2
                go_meet
                case rel => exact ⟨0, hrn1, rfl, rfl⟩
            case rest =>
              obtain ⟨k, hk, rfl, rfl⟩ := hcut
              have hkr : k < rd.length := by rw [← HRN.out]; exact hk
              obtain ⟨rad, hrad, -, -, k0⟩ := HROW.out.int k hkr
              obtain ⟨i, nd, hi, hin, ho3, htn', hl60', hlen', hs1', hs2'⟩ := HONE.out rd[k] (List.getElem_mem hkr)
              have htk := fun W hB => HTK.out W hB rd[k] (List.getElem_mem hkr)
              rw [hi] at k0 htk htn' hl60' hlen' hs1' hs2'
              have hiq : i < qn := by rw [HQN.out]; exact (List.getElem?_eq_some_iff.1 hin).1
              obtain ⟨qad, K, kc, hQA, x0, x1, x2, hkk⟩ := (HRD.out.below HB3.out).nd_at (Below.refl _ _) hin
              have hno7 := (encO_ops HH.out.1 nd (List.mem_of_getElem? hin)).2
              obtain ⟨no, np, nk⟩ := nd
              simp only at x0 x1 x2 ho3 hno7 hs1' hs2'
              have HTK2 := hide htk
              have HN := hide htn'
              have HN60 := hide hl60'
              have HNL := hide hlen'
              have HS1 := hide hs1'
              have HS2 := hide hs2'
              subst hrad; subst hQA
              clear htk htn' hl60' hlen' hs1' hs2' hi hin hkr hkk
              have d0 : decide ((i : Int) < 0) = false := decide_eq_false (by omega)
              have d1 : decide (qn ≤ i) = false := decide_eq_false (by omega)
              have d2 : decide ((qn : Int) ≤ i) = false := decide_eq_false (by omega)
              go_wp2
              go_quiet (fail)
              go_wp2
              go_quiet (fail)
              go_wp2
              go_quiet (fail)
              go_wp2
              have HBC := hide (HBW.out.trans (HB3.out.mono HBW.out.size))
              go_region_law ((go_simp; go_at_call 38; refine (HTK2.out _ (by repeat (first | exact HB3.out | refine Below.drew ?_ | refine below_drewN ?_ _))).mono ?_; intro e w5 hm5; obtain ⟨A5, c5, rfl, hg5, hx5, hr5, hb5⟩ := MadeT.into (w := w) (g := w.heap.size) (by repeat (first | exact HBC.out | refine Below.drew ?_ | refine below_drewN ?_ _)) (Nat.le_refl _) (by exact BX3.out) hm5; have q0 := blk_cell hg5 0; have qf := blk_frozen hg5 0; have ql := blk_lt hg5; simp at q0; have HX5 := hide hx5; have HR5 := hide hr5; have HB5 := hide hb5; clear hm5 hg5 hx5 hr5 hb5))
              all_goals
                go_wp2
                go_roundw
                case rel =>
                  have h2 := HH.out.2.2.2.1
                  rw [HS2.out] at h2
                  refine ⟨anewT 0 (i : Int) Pt.nil q, m + 1, wrap64 (s - np), A5, c5, by go_num, rfl, ?_, HN.out, Nat.le_trans HN60.out HH.out.2.1, ?_, ?_, HX5.out, HR5.out, HB5.out⟩
                  · rw [HSO.out, HS1.out]
                    congr 1
                    omega
                  · have := HH.out.2.2.1
                    have := HNL.out
                    omega
                  · have h3 := Word.sub (x := np) h2
                    rwa [show np + sum2 (lv (anewT 0 (i : Int) Pt.nil q)) - np = sum2 (lv (anewT 0 (i : Int) Pt.nil q)) by omega] at h3
                case measure => simp [intOf]; omega
/-- StepsAll answers true. -/
theorem stepsAll_true {okt okp : Nat → Prop} {A P : Option Addr} {c pc : Nat} (l : List Nd) (picks : List Int) (w : World) (h : Rds El.nd w okt (.slice A l.length c) l) (hp : Rds El.int w okp (.slice P picks.length pc) picks) :
    Calls Try.prog 10 #[.agg #[.slice A l.length c], .slice P picks.length pc] w (SaysB true w) := by
  by_cases hc : Few22 l ∧ picks.length ≤ 80 ∧ rightB l = true
  · obtain ⟨hf, hp8, hr⟩ := hc
    obtain ⟨q, hq, rfl⟩ : ∃ q, TN q ∧ l = encO q := by
      rcases (rightB_iff l).1 hr with rfl | ⟨p, h1, h2⟩
      · exact ⟨Pt.nil, .inl rfl, rfl⟩
      · exact ⟨p, .inr h1, by rw [encO_RT h1, h2]⟩
    exact stepsAll_any q picks w hq h rfl hp hp8 hf.1 (fun W hB => (few22_any (encO q) W (h.below hB)).mono fun _ _ ⟨b, h1, _, h3⟩ => ⟨b, h1, h3⟩)
  · exact stepsAll_not l w h (fun hf hp8 => by
      cases hr : rightB l with
      | true => exact absurd ⟨hf, hp8, hr⟩ hc
      | false => rfl)
end Go.Proofs.Ytbobjecjopmnfaa
