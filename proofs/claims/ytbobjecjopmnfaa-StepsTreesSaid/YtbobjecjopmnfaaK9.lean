/- The walk of put. -/
import Derived.Test.YtbobjecjopmnfaaK8
namespace Go.Proofs.Ytbobjecjopmnfaa
open Go.RowKit
open Pt (shift)
theorem root_ok {ok : Nat → Prop} {A : Option Addr} {c : Nat} (l : List Nd) (n : Nd) (w : World) (h : Rds El.nd w ok (.slice A l.length c) l) (hl : l.length ≤ 1000000) (hn : l.getLast? = some n) (W : World) (hb : Below w.heap.size w W) :
    Calls Try.prog 82 #[.agg #[.slice A l.length c]] W fun e w' => ∃ K kc, e = .returned (.agg #[.int .u8 n.op, .int .i64 n.pl, .slice K n.kids.length kc]) ∧ Rds El.int W ok (.slice K n.kids.length kc) n.kids ∧ Below W.heap.size W w' :=
  root_any l n W (h.below hb) hl hn
theorem rd_block_ok {w : World} {ok : Nat → Prop} {g t : Nat} {cs : List Value} {sz : Nat} (h : w.heap[g]? = some (.cells cs.toArray t (0, 0))) (hs : cs.length = sz) (hg : ok g) : Rd w ok sz (.slice (some ⟨g, 0, none⟩) 1 1) 1 cs := by
  refine ⟨by rw [hs, Nat.one_mul], _, _, rfl, Nat.le_refl _, fun _ => ⟨_, rfl, hg, fun j u hu => ?_⟩⟩
  rw [add_at, Nat.zero_add, blk_cell h j]
  simpa using hu
theorem field76_0 (w : World) (a b : Int) (K : Option Addr) (n kc : Nat) : (Instr.field 76 (.agg #[.int .u8 a, .int .i64 b, .slice K n kc]) 0).run Try.prog w = .ok (.int .u8 a) w := by kernel_rfl
theorem field76_2 (w : World) (a b : Int) (K : Option Addr) (n kc : Nat) : (Instr.field 76 (.agg #[.int .u8 a, .int .i64 b, .slice K n kc]) 2).run Try.prog w = .ok (.slice K n kc) w := by kernel_rfl
set_option maxRecDepth 20000 in
set_option maxHeartbeats 16000000 in
theorem sput_any {ok : Nat → Prop} {A : Option Addr} {c : Nat} (op : Int) (rows : List (List Nd)) (w : World) (h : Rds (El.row El.nd) w ok (.slice A rows.length c) rows) (hr : rows.length ≤ 1000) (hf : ∀ r ∈ rows, FitsK r) :
    Calls Try.prog 69 #[.int .u8 op, .slice A rows.length c] w (MadeT (putR op rows) w) := by
  have H := hide (h.mono (ok' := fun b => b < w.heap.size) (fun b _ hlt => hlt))
  have HF := hide hf
  clear h hf
  obtain ⟨f, hf⟩ : ∃ f : Nat → List Nd × List Int, ∀ j, f j = (rows.take j).foldl (putStep op) ([], []) := ⟨_, fun _ => rfl⟩
  have hf0 : f 0 = ([], []) := by rw [hf]; rfl
  have hfs : ∀ j r, rows[j]? = some r → f (j + 1) = putStep op (f j) r := fun j r hr => by
    obtain ⟨hj, rfl⟩ := List.getElem?_eq_some_iff.1 hr
    rw [hf, hf, List.take_succ_eq_append_getElem hj, List.foldl_append]
    rfl
  have hfe : putR op rows = if 1 < (f rows.length).2.length then (f rows.length).1 ++ [⟨op, 0, (f rows.length).2⟩] else (f rows.length).1 := by
    rw [hf, List.take_length]
    rfl
  have HF0 := hide hf0
  have HFS := hide hfs
  have HFE := hide hfe
  clear hf hf0 hfs hfe
  have i0 : PutI w ((w.alloc (.cells #[.slice none 0 0] 59)).alloc (.cells #[.slice none 0 0] 59)) none 0 0 (f 0).1 none 0 0 (f 0).2 := by
    rw [HF0.out]
    exact ⟨blk_alloc (heap_alloc_new _ _) _, blk_new (by simp), OwnP.nil _ _ _ _, rfl, Row.nil _ _ _, rfl, fun b hb => (Fp_none hb).elim, ((Below.refl _ _).alloc (Nat.le_refl _) _).alloc (by simp) _⟩
  have s0 : Small 0 (f 0) := by rw [HF0.out]; exact ⟨Nat.le_refl _, Nat.le_refl _⟩
  have I0 := hide i0
  have S0 := hide s0
  clear i0 s0
  obtain ⟨rn, hrn⟩ : ∃ rn, rn = rows.length := ⟨_, rfl⟩
  rw [← hrn] at hr H ⊢
  have HRN := hide hrn
  clear hrn
  have fd0 := field76_0
  have fd2 := field76_2
  go_enter Try.func69, Try.ntmps69
  go_wp2
  go_loopw [6, 20] (fun kv i wr => ∃ (j : Nat) (OA : Option Addr) (on oc : Nat) (KA : Option Addr) (kn kc : Nat), j ≤ rn ∧ i = .int .i64 j ∧ kv = .slice KA kn kc ∧ Hid (PutI w wr OA on oc (f j).1 KA kn kc (f j).2) ∧ Hid (Small j (f j))) (fun _ i _ => rn - (intOf i).toNat)
  case atStart => exact ⟨0, none, 0, 0, none, 0, 0, Nat.zero_le _, rfl, rfl, I0.out, S0.out⟩
  case round =>
    clear I0 S0
    obtain ⟨j, OA, on, oc, KA, kn, kc, hj, rfl, rfl, I, S⟩ := hrel
    have hon : on ≤ 1000000 := by have h1 := I.out.olen; have h2 := S.out.1; have h3 : j * 1000 ≤ 1000 * 1000 := Nat.mul_le_mul_right _ (by omega); omega
    have hkn : kn ≤ 1000000 := by have h1 := I.out.klen; have h2 := S.out.2; have h3 : j * 1000 ≤ 1000 * 1000 := Nat.mul_le_mul_right _ (by omega); omega
    by_cases hlt2 : j < rn
    · obtain ⟨t, ht⟩ : ∃ t, rows[j]? = some t := ⟨_, List.getElem?_eq_getElem (by rw [← HRN.out]; exact hlt2)⟩
      obtain ⟨ad, TA, tc, hA, x0, htr⟩ := H.out.row_at I.out.hb ht
      have hft := HF.out t (List.mem_of_getElem? ht)
      have htl := hft.1
      have HT := hide ht
      have HTR := hide htr
      have HFT := hide hft
      clear ht htr hft
      subst hA
      have b5 := blk_cell I.out.b5 0
      have f5 := blk_frozen I.out.b5 0
      have l5 := blk_lt I.out.b5
      simp at b5
      by_cases ht0 : t = []
      · subst ht0
        go_wp2
        go_roundw
        case rel =>
          refine ⟨j + 1, OA, on, oc, KA, kn, kc, by omega, by go_num, rfl, ?_, ?_⟩
          · rw [HFS.out j _ HT.out, putStep_nil]
            exact I.out.below ((Below.refl _ _).alloc (Nat.le_refl _) _)
          · rw [HFS.out j _ HT.out, putStep_nil]
            exact S.out.skip
        case measure => simp [intOf]; omega
      · obtain ⟨n, hn⟩ : ∃ n, t.getLast? = some n := by
          cases t with
          | nil => exact absurd rfl ht0
          | cons a b => exact ⟨_, List.getLast?_eq_getElem?.trans (List.getElem?_eq_getElem (by simp))⟩
        obtain ⟨tn, htn⟩ : ∃ tn, t.length = tn + 1 := ⟨t.length - 1, by cases t with | nil => exact absurd rfl ht0 | cons => simp⟩
        have hroot := fun W hb => root_ok t n w HTR.out (by omega) hn W hb
        rw [htn] at x0 hroot htl
        have HROOT := hide hroot
        have HN := hide hn
        have HTN := hide htn
        clear hn htn ht0 hroot
        obtain ⟨no, np, nk⟩ := n
        go_wp2
        go_cut [9, 10] (fun by_ own wx => ∃ G : Nat, by_ = .int .i64 on ∧ own = .slice (some ⟨G, 0, none⟩) 1 1 ∧ Hid (wr.heap.size < G ∧ wx.heap[G]? = some (.cells #[.int .i64 tn] 3 (0, 0)) ∧ wx.heap[wr.heap.size]? = some (.cells #[.slice TA (tn + 1) tc] 59 (0, 0)) ∧ Below wr.heap.size wr wx))
        case first =>
          go_region_held3 (fun w' => w'.cell? ⟨w.heap.size + 1, 0, none⟩ = some (.slice OA on oc) ∧ w'.cell? ⟨wr.heap.size, 0, none⟩ = some (.slice TA (tn + 1) tc)) (go_keep) (fail)
          all_goals
            go_wp2_with fail
            go_meet
            case rel =>
              refine ⟨wr.heap.size + 1, by go_num, rfl, by omega, ?_, ?_, ?_⟩
              · have hwt : IntKind.i64.wrap (tn : Int) = tn := by rw [IntKind.wrap_i64]; omega
                rw [hwt]
                show (World.alloc _ _).heap[wr.heap.size + 1]? = _
                exact blk_new (by simp)
              · exact blk_alloc (heap_alloc_new wr _) _
              · repeat (first | exact Below.refl _ _ | refine Below.drew ?_ | refine below_drewN ?_ _ | refine Below.alloc ?_ (by simp) _)
        case rest =>
          obtain ⟨G, rfl, rfl, HG⟩ := hcut
          have HGB := hide HG.out.2.2.2
          have t0 := blk_cell HG.out.2.2.1 0
          have tf := blk_frozen HG.out.2.2.1 0
          have tl := blk_lt HG.out.2.2.1
          simp at t0
          go_upto_if 40 with (go_at_call 82; refine (HROOT.out _ (I.out.hb.trans (HGB.out.mono I.out.hb.size))).mono ?_; rintro e w4 ⟨K, kc2, rfl, hk4, hb4⟩; have bt4 := box_same HG.out.2.2.1 hb4; have g4 := box_same HG.out.2.1 hb4; have t4 := blk_cell bt4 0; have tf4 := blk_frozen bt4 0; have tl4 := blk_lt bt4; simp at t4; have HK4 := hide hk4; have HB4 := hide (below_then HGB.out hb4); have BT4 := hide bt4; have G4 := hide g4; clear hk4 hb4 bt4 g4)
          have htc : tn + 1 ≤ tc := by
            obtain ⟨_, _, he, hc⟩ := HTR.out.slice_
            injection he with _ _ e3
            rw [HTN.out] at hc
            omega
          go_cut [10] (fun ov wy => ∃ (ns : List Nd) (own : List Int) (NA : Option Addr) (nn nc : Nat) (WA : Option Addr) (wn wc : Nat), ov = .slice WA wn wc ∧ wn = own.length ∧ nn = ns.length ∧ Hid (Moved op t ns own) ∧ Hid (wy.heap[wr.heap.size]? = some (.cells #[.slice NA nn nc] 59 (0, 0))) ∧ Hid (Rds El.nd w (fun b => b < w.heap.size) (.slice NA nn nc) ns) ∧ Hid (Rd wy (fun b => (b < w.heap.size ∨ wr.heap.size < b) ∧ b < wy.heap.size) 1 (.slice WA wn wc) wn (ints own)) ∧ Hid (Below wr.heap.size wr wy))
          case first =>
            by_cases hop : no = op
            · have hop' : (no == op) = true := by rw [beq_iff_eq]; exact hop
              have HOP := hide hop
              clear hop
              go_wp2_with (go_at_call 82; refine (HROOT.out _ (I.out.hb.trans (HB4.out.mono I.out.hb.size))).mono ?_; rintro e w5 ⟨K5, kc5, rfl, hk5, hb5⟩; have bt5 := box_same BT4.out hb5; have t5 := blk_cell bt5 0; have tf5 := blk_frozen bt5 0; have tl5 := blk_lt bt5; simp at t5; have HK5 := hide hk5; have HB5 := hide (below_then HB4.out hb5); have HB5' := hide hb5; have BT5 := hide bt5; clear hk5 hb5 bt5)
              go_meet
              case rel =>
                refine ⟨t.dropLast, nk, TA, tn, tc, K5, nk.length, kc5, rfl, rfl, by rw [List.length_dropLast, HTN.out]; rfl, ⟨_, HN.out, .inl ⟨HOP.out, rfl, rfl⟩⟩, blk_set BT5.out 0 _, ?_, ?_, HB5.out.setCell (Nat.le_refl _) _⟩
                · have h1 := HTR.out
                  rw [HTN.out] at h1
                  have h2 := h1.take (k := tn) (by rw [HTN.out]) (by omega)
                  rwa [show t.take tn = t.dropLast by rw [List.dropLast_eq_take, HTN.out]; rfl] at h2
                · have h1 := HK5.out.rd_ints
                  have h2 := h1.below HB5'.out
                  have hsz := I.out.hb.size
                  refine (h2.keep (w' := w5.setCell ⟨wr.heap.size, 0, none⟩ (.slice TA tn tc)) (fun b hb _ => Below.heap_setCell w5 ⟨wr.heap.size, 0, none⟩ _ b (by show b ≠ wr.heap.size; omega))).mono (fun b hb => ⟨.inl hb, ?_⟩)
                  have h3 := HB5.out.size
                  rw [World.size_setCell]
                  omega
            · have hop' : (no == op) = false := by rw [beq_eq_false_iff_ne]; exact hop
              have HOP := hide hop
              clear hop
              go_wp2
              go_meet
              case rel =>
                refine ⟨t, [(t.length : Int) - 1], TA, tn + 1, tc, _, 1, 1, rfl, rfl, HTN.out.symm, ⟨_, HN.out, .inr ⟨HOP.out, rfl, rfl⟩⟩, BT4.out, ?_, ?_, HB4.out⟩
                · have h1 := HTR.out
                  rwa [HTN.out] at h1
                · refine rd_block_ok (t := 3) (cs := ints [(t.length : Int) - 1]) ?_ rfl ⟨.inr HG.out.1, blk_lt G4.out⟩
                  rw [G4.out, HTN.out]
                  have : ((tn + 1 : Nat) : Int) - 1 = tn := by omega
                  rw [this]
                  rfl
          case rest =>
            obtain ⟨ns, own, NA, nn, nc, WA, wn, wc2, rfl, hwn, hnn, HM, HBT, HNS, HOW, HBY⟩ := hcut
            have hff := HM.out.fits (HFT.out)
            have hnl := hff.1.1
            have hol := hff.2.1
            rw [← hnn] at hnl
            rw [← hwn] at hol
            have HFN := hide hff.1
            have HFO := hide hff.2.2
            have HNN := hide hnn
            have HWN := hide hwn
            clear hff hwn hnn b5 f5 l5 t0 tf tl t4 tf4 tl4 HK4 HB4 BT4 G4 HGB HG x0 HROOT HTR HN HTN htl
            obtain ⟨wy, rfl⟩ : ∃ wy : World, wy = wc := ⟨_, rfl⟩
            have bty := blk_cell HBT.out 0
            have btl := blk_lt HBT.out
            simp at bty
            have IY := hide (I.out.below HBY.out)
            go_wp2
            go_loopw [55] (fun i wx => ∃ (q : Nat) (OB : Option Addr) (bn bc : Nat), q ≤ nn ∧ i = .int .i64 q ∧ Hid (PutI w wx OB bn bc ((f j).1 ++ (ns.take q).map (shift on)) KA kn kc (f j).2) ∧ Hid (Only (fun b => Fp (.slice OA on oc) b ∨ b = w.heap.size + 1) wy wx) ∧ Hid (∀ b, Fp (.slice OB bn bc) b → Fp (.slice OA on oc) b ∨ wy.heap.size ≤ b)) (fun i _ => nn - (intOf i).toNat)
            case atStart => exact ⟨0, OA, on, oc, Nat.zero_le _, rfl, by rw [List.take_zero, List.map_nil, List.append_nil]; exact IY.out, Only.refl _ _, fun b hb => .inl hb⟩
            case round =>
              obtain ⟨wx, rfl⟩ : ∃ wx : World, wx = wr := ⟨_, rfl⟩
              obtain ⟨q, OB, bn, bc, hq, rfl, J, JO, JF⟩ := hrel
              have hbn : bn ≤ 1001000 := by
                have h1 := J.out.olen
                rw [List.length_append, List.length_map, List.length_take, ← I.out.olen] at h1
                omega
              by_cases hlt3 : q < nn
              · obtain ⟨nd, hnd⟩ : ∃ nd, ns[q]? = some nd := ⟨_, List.getElem?_eq_getElem (by rw [← HNN.out]; exact hlt3)⟩
                obtain ⟨nad, K6, kc6, hA6, y0, y1, y2, hk6⟩ := HNS.out.nd_at J.out.hb hnd
                have hkf := HFN.out.2 nd (List.mem_of_getElem? hnd)
                have HND := hide hnd
                have HK6 := hide hk6
                have HKF := hide hkf.2
                have hml := hkf.1
                clear hnd hk6 hkf
                obtain ⟨xo, xp, xk⟩ := nd
                simp only at y0 y1 y2 hml
                subst hA6
                obtain ⟨m, hm⟩ : ∃ m, m = xk.length := ⟨_, rfl⟩
                simp only at HK6
                rw [← hm] at y2 hml HK6
                have HMM := hide hm
                clear hm
                have c5 := blk_cell J.out.b5 0
                simp at c5
                go_wp2_with (at_make; refine wpList_make_ints _ rfl _ _ rfl m rfl rfl (by omega) ?_; intro w6 hrow6 hfp6 hb6; rw [World.size_alloc] at hrow6 hfp6; have bn6 := box_same (g := wx.heap.size) (o := .cells #[.int .u8 xo, .int .i64 xp, .slice K6 m kc6] 76 (0, 0)) (heap_alloc_new wx _) hb6; have n0 := blk_cell bn6 0; have n1 := blk_cell bn6 1; have n2 := blk_cell bn6 2; have nl := blk_lt bn6; simp at n0 n1 n2; have HR6 := hide hrow6; have HF6 := hide hfp6; have hB6 : Below wx.heap.size wx w6 := below_then ((Below.refl _ _).alloc (Nat.le_refl _) _) hb6; have HB6 := hide hB6; have BN6 := hide bn6; clear hrow6 hfp6 hb6 hB6 bn6)
                go_loopw [13, 66] (fun mv cnt wz => ∃ (u : Nat) (MA : Option Addr) (mc : Nat), u ≤ m ∧ cnt = .int .i64 u ∧ mv = .slice MA u mc ∧ Hid (Row wz 3 1 (.slice MA u mc) u (ints ((xk.take u).map (· + (on : Int))))) ∧ Hid (∀ b, Fp (.slice MA u mc) b → wx.heap.size ≤ b) ∧ Hid (Below wx.heap.size wx wz) ∧ Hid (wz.heap[wx.heap.size]? = some (.cells #[.int .u8 xo, .int .i64 xp, .slice K6 m kc6] 76 (0, 0)))) (fun _ i _ => m - (intOf i).toNat)
                case atStart => exact ⟨0, _, m, Nat.zero_le _, rfl, rfl, HR6.out, fun b hb => by have := HF6.out b hb; omega, HB6.out, BN6.out⟩
                case round =>
                  obtain ⟨wz, rfl⟩ : ∃ wz : World, wz = wr := ⟨_, rfl⟩
                  clear n0 n1 n2 nl HR6 HF6 HB6 BN6
                  obtain ⟨u, MA, mc, hu, rfl, rfl, MR, MF, MB, MN⟩ := hrel
                  by_cases hlt4 : u < m
                  · obtain ⟨k, hk⟩ : ∃ k, xk[u]? = some k := ⟨_, List.getElem?_eq_getElem (by rw [← HMM.out]; exact hlt4)⟩
                    obtain ⟨hku, hke⟩ := List.getElem?_eq_some_iff.1 hk
                    obtain ⟨kad, hkad, -, -, k0⟩ := (HK6.out.below (J.out.hb.trans (MB.out.mono J.out.hb.size))).int u hku
                    rw [hke] at k0
                    obtain ⟨hk0, hk1⟩ := HKF.out k (List.mem_of_getElem? hk)
                    subst hkad
                    have HKE := hide hk
                    clear hk hke hku
                    go_wp2_with (at_builtin; refine wpList_append_int _ rfl (.tmp 70) (.tmp 74) rfl MA u mc _ rfl (MR.out.below (by repeat (first | exact Below.refl _ _ | refine Below.drew ?_ | refine below_drewN ?_ _ | refine Below.alloc ?_ (by simp) _))) _ (k + on) rfl (blk_new (by simp)) (by omega) ?_; intro MA' mc' w7 hrow7 honly7 hfp7; have HR7 := hide hrow7; have HO7 := hide honly7; have HF7 := hide hfp7; clear hrow7 honly7 hfp7)
                    go_roundw
                    case rel =>
                      have hsz := MB.out.size
                      have hB7 : Below wx.heap.size wx w7 := (MB.out.alloc hsz _).trans (HO7.out.below MF.out (by simp; omega))
                      refine ⟨u + 1, MA', mc', by omega, by go_num, rfl, ?_, fun b hb => ?_, hB7, ?_⟩
                      · rw [map_take_next _ HKE.out]
                        exact HR7.out
                      · rcases HF7.out b hb with h | h
                        · exact MF.out b h
                        · simp at h
                          omega
                      · refine box_only (w := wz.alloc (.cells #[.int .i64 (k + on)] 3)) (blk_alloc MN.out _) HO7.out ?_
                        exact (MR.out.alloc (.cells #[.int .i64 (k + on)] 3)).ne_ (blk_alloc MN.out _) (by decide)
                    case measure => simp [intOf]; omega
                  · obtain rfl : u = m := by omega
                    have n0 := blk_cell MN.out 0
                    have n1 := blk_cell MN.out 1
                    have nl := blk_lt MN.out
                    simp at n0 n1
                    have d5' := (J.out.below MB.out).b5
                    have d5 := blk_cell d5' 0
                    have dl := blk_lt d5'
                    simp at d5
                    clear d5'
                    have hmr : Row wz 3 1 (.slice MA u mc) (xk.map (· + (on : Int))).length (ints (xk.map (· + (on : Int)))) := by
                      have h1 := MR.out
                      rw [HMM.out, List.take_length] at h1
                      rw [List.length_map, ← HMM.out]
                      rwa [← HMM.out] at h1
                    have hok : ∀ b, wx.heap.size ≤ b → w.heap.size ≤ b ∧ ¬ Fp (.slice KA kn kc) b := fun b hb => ⟨Nat.le_trans J.out.hb.size hb, fun h => by have := J.out.krow.lt b h; omega⟩
                    have HMR := hide hmr
                    have HOK := hide hok
                    have MBZ := hide MB.out.size
                    clear hmr hok
                    go_wp2_with (at_builtin; refine wpList_append_nd _ rfl (.tmp 78) (.tmp 85) rfl (fun b => w.heap.size ≤ b ∧ ¬ Fp (.slice KA kn kc) b) OB bn bc _ rfl J.out.olen.symm ((J.out.own.below MB.out).below ((Below.refl _ _).alloc (Nat.le_refl _) _)) wz.heap.size xo xp (xk.map (· + (on : Int))) (.slice MA u mc) rfl (heap_alloc_new _ _) (HMR.out.alloc _) (fun b hb => HOK.out b (MF.out b hb)) (fun b hb => HOK.out b (Nat.le_trans MBZ.out (by rw [World.size_alloc] at hb; omega))) (by omega) ?_; intro OB' bc' w8 hown8 honly8 hfp8; have bo8 := J.out.far (below_then MB.out ((Below.refl _ _).alloc (Nat.le_refl _) _)) honly8; have p0 := blk_cell bo8 0; have pf := blk_frozen bo8 0; have plt := blk_lt bo8; simp at p0; have HW8 := hide hown8; have HO8 := hide honly8; have HF8 := hide hfp8; clear hown8 honly8 hfp8 bo8)
                    go_roundw
                    case rel =>
                      have hp := J.out.push (below_then MB.out ((Below.refl _ _).alloc (Nat.le_refl _) _)) HO8.out HW8.out
                      have hB8 : Below wy.heap.size wy wy := Below.refl _ _
                      refine ⟨q + 1, OB', bn + 1, bc', by omega, by go_num, ?_, ?_, ?_⟩
                      · rw [map_take_nd _ HND.out, ← List.append_assoc]
                        exact hp
                      · have o1 := Only.of_below MB.out (fun b => Fp (.slice OB bn bc) b ∨ b = w.heap.size + 1)
                        have o2 : Only (fun b => Fp (.slice OB bn bc) b ∨ b = w.heap.size + 1) wx w8 := (o1.alloc _).trans HO8.out (fun b hb => .inl (.inl hb))
                        have o3 := Only.setCell (ok := fun b => Fp (.slice OB bn bc) b ∨ b = w.heap.size + 1) (p := ⟨w.heap.size + 1, 0, none⟩) o2 (.inl (.inr rfl)) (.slice OB' (bn + 1) bc')
                        exact JO.out.trans o3 (fun b hb => hb.elim (fun h => (JF.out b h).imp .inl id) (fun h => .inl (.inr h)))
                      · intro b hb
                        rcases HF8.out b hb with h | h
                        · exact JF.out b h
                        · have h1 := MBZ.out
                          have h2 := JO.out.size
                          rw [World.size_alloc] at h
                          exact .inr (by omega)
                    case measure => simp [intOf]; omega
              · obtain rfl : q = nn := by omega
                have hout : (f j).1 ++ (ns.take q).map (shift on) = (f j).1 ++ ns.map (shift on) := by rw [HNN.out, List.take_length]
                have j0 := J.out
                rw [hout] at j0
                have J0 := hide j0
                have how := HOW.out.only JO.out (fun b hb hb2 => by
                  have h3 := I.out.hb.size
                  rcases hb2 with h | h
                  · have h1 := (I.out.own.fp b h).1
                    have h2 := I.out.own.lt b h
                    omega
                  · have h1 := blk_lt I.out.b5
                    omega)
                have HOW2 := hide how
                have HKB := hide I.out.krow.lt
                have HKF := hide I.out.kfp
                clear hout j0 how
                go_wp2
                go_loopw [6, 91] (fun kv cnt wv => ∃ (u : Nat) (KB : Option Addr) (bkn bkc : Nat), u ≤ wn ∧ cnt = .int .i64 u ∧ kv = .slice KB bkn bkc ∧ Hid (PutI w wv OB bn bc ((f j).1 ++ ns.map (shift on)) KB bkn bkc ((f j).2 ++ (own.take u).map (· + (on : Int)))) ∧ Hid (Rd wv (fun b => (b < w.heap.size ∨ wr.heap.size < b) ∧ b < wy.heap.size) 1 (.slice WA wn wc2) wn (ints own)) ∧ Hid (∀ b, Fp (.slice KB bkn bkc) b → Fp (.slice KA kn kc) b ∨ wy.heap.size ≤ b) ∧ Hid (wy.heap.size ≤ wv.heap.size)) (fun _ i _ => wn - (intOf i).toNat)
                case atStart => exact ⟨0, KA, kn, kc, Nat.zero_le _, rfl, rfl, by rw [List.take_zero, List.map_nil, List.append_nil]; exact J0.out, HOW2.out, fun b hb => .inl hb, JO.out.size⟩
                case round =>
                  obtain ⟨wv, rfl⟩ : ∃ wv : World, wv = wr := ⟨_, rfl⟩
                  obtain ⟨u, KB, bkn, bkc, hu, rfl, rfl, Z, ZO, ZF, ZW⟩ := hrel
                  have hbk : bkn ≤ 1002000 := by
                    have h1 := Z.out.klen
                    rw [List.length_append, List.length_map, List.length_take, ← I.out.klen] at h1
                    omega
                  by_cases hlt5 : u < wn
                  · obtain ⟨k, hk⟩ : ∃ k, own[u]? = some k := ⟨_, List.getElem?_eq_getElem (by rw [← HWN.out]; exact hlt5)⟩
                    obtain ⟨hku, hke⟩ := List.getElem?_eq_some_iff.1 hk
                    have hzo := ZO.out
                    rw [HWN.out] at hzo
                    obtain ⟨kad, hkad, -, -, k0⟩ := (Rds.of_ints hzo).int u hku
                    rw [hke] at k0
                    obtain ⟨hk0, hk1⟩ := HFO.out k (List.mem_of_getElem? hk)
                    subst hkad
                    have HKE := hide hk
                    clear hk hke hku hzo
                    go_wp2_with (at_builtin; refine wpList_append_int _ rfl (.tmp 95) (.tmp 99) rfl KB bkn bkc _ rfl (Z.out.krow.below (by repeat (first | exact Below.refl _ _ | refine Below.drew ?_ | refine below_drewN ?_ _ | refine Below.alloc ?_ (by simp) _))) _ (k + on) rfl (blk_new (by simp)) (by omega) ?_; intro KB' bkc' w9 hrow9 honly9 hfp9; have HR9 := hide hrow9; have HO9 := hide honly9; have HF9 := hide hfp9; clear hrow9 honly9 hfp9)
                    go_roundw
                    case rel =>
                      have hz := Z.out.kid ((Below.refl _ _).alloc (Nat.le_refl _) _) HO9.out HR9.out HF9.out
                      refine ⟨u + 1, KB', bkn + 1, bkc', by omega, by go_num, rfl, ?_, ?_, fun b hb => ?_, Nat.le_trans ZW.out (Nat.le_trans (by rw [World.size_alloc]; omega) HO9.out.size)⟩
                      · rw [map_take_next _ HKE.out, ← List.append_assoc]
                        exact hz
                      · refine (ZO.out.below ((Below.refl _ _).alloc (Nat.le_refl _) _)).only HO9.out (fun b hb hb2 => ?_)
                        rcases ZF.out b hb2 with h | h
                        · have h1 := HKB.out b h
                          have h2 := HKF.out b h
                          omega
                        · omega
                      · rcases HF9.out b hb with h | h
                        · exact ZF.out b h
                        · have h1 := Z.out.hb.size
                          have h2 := ZW.out
                          rw [World.size_alloc] at h
                          exact .inr (by omega)
                    case measure => simp [intOf]; omega
                  · obtain rfl : u = wn := by omega
                    go_wp2
                    go_roundw
                    case rel =>
                      have hz := Z.out
                      rw [HWN.out, List.take_length] at hz
                      have hst := HM.out.step (f j)
                      rw [← I.out.olen] at hst
                      refine ⟨j + 1, OB, bn, bc, KB, bkn, bkc, by omega, by go_num, rfl, ?_, ?_⟩
                      · rw [HFS.out j _ HT.out, hst]
                        exact hz
                      · rw [HFS.out j _ HT.out]
                        exact S.out.step HM.out HFT.out
                    case measure => simp [intOf]; omega
    · obtain rfl : j = rn := by omega
      have b5 := blk_cell I.out.b5 0
      have f5 := blk_frozen I.out.b5 0
      have l5 := blk_lt I.out.b5
      have b4 := blk_cell I.out.b4 0
      have f4 := blk_frozen I.out.b4 0
      have l4 := blk_lt I.out.b4
      simp at b5 b4
      have hfe := HFE.out
      rw [← HRN.out, ← I.out.klen] at hfe
      by_cases hk1 : 1 < kn
      · rw [if_pos hk1] at hfe
        have HFEE := hide hfe
        have hkr := I.out.krow
        rw [I.out.klen] at hkr
        have HKR : Hid (Row wr 3 1 (.slice KA kn kc) (f j).2.length (ints (f j).2)) := by
          rw [I.out.klen]
          exact hkr
        have HKL := hide I.out.klen
        have HOW : Hid (OwnP El.ndO wr 76 (fun b => w.heap.size ≤ b) (.slice OA on oc) (f j).1) := I.out.own.mono (fun b hb _ => hb.1)
        clear hfe hkr
        go_wp2_with (at_builtin; refine wpList_append_nd _ rfl (.tmp 107) (.tmp 111) rfl (fun b => w.heap.size ≤ b) OA on oc _ rfl I.out.olen.symm (HOW.out.below ((Below.refl _ _).alloc (Nat.le_refl _) _)) wr.heap.size op 0 (f j).2 (.slice KA kn kc) rfl (heap_alloc_new _ _) (HKR.out.alloc _) I.out.kfp (fun b hb => by have h1 := I.out.hb.size; rw [World.size_alloc] at hb; omega) (by omega) ?_; intro OB' bc' w8 hown8 honly8 hfp8; have hbb := below_then (Below.refl _ _) ((Below.refl wr.heap.size wr).alloc (Nat.le_refl _) (.cells #[.int .u8 op, .int .i64 0, .slice KA kn kc] 76)); have bo8 := I.out.far hbb honly8; have b48 := box_only (I.out.below hbb).b4 honly8 (I.out.below hbb).nofp.1; have p0 := blk_cell bo8 0; have pf := blk_frozen bo8 0; have plt := blk_lt bo8; have q0 := blk_cell b48 0; have qf := blk_frozen b48 0; have qlt := blk_lt b48; simp at p0 q0; have HFIN := hide (I.out.done2 hbb honly8 hown8); clear hown8 honly8 hfp8 bo8 b48 hbb)
        refine bodyPost_ret (v := .agg #[.slice OB' (on + 1) bc']) (by simp [results, Try.results69, go_sem, q0]) rfl ?_
        rw [HFEE.out]
        exact HFIN.out
      · rw [if_neg hk1] at hfe
        have HFEE := hide hfe
        clear hfe
        have hfin := I.out.done
        have HFIN := hide hfin
        clear hfin
        go_wp2
        refine bodyPost_ret (v := .agg #[.slice OA on oc]) (by simp [results, Try.results69, go_sem, b4]) rfl ?_
        rw [HFEE.out]
        exact HFIN.out
end Go.Proofs.Ytbobjecjopmnfaa
