/- The walk of Row (the reference's 22). -/
import Derived.Test.YtbobjecjopmnfaaNA
import Derived.Test.YtbobjecjopmnfaaN4
namespace Go.Proofs.Ytbobjecjopmnfaa
open Go.RowKit
open Pt (szL sz encL enc roots encL_length roots_length enc_length shift RT roots_append encL_append enc_shift)
attribute [local go_sem ↓] Go.wp_at_zero Go.wp_at_succ
/-- What Row's loops hold. -/
structure Rw (w wr : World) (cp : Array Value) (OA : Option Addr) (on oc : Nat) (out : List Nd) (KA : Option Addr) (kn kc : Nat) (kids : List Int) : Prop where
  bp : wr.heap[w.heap.size]? = some (.cells cp 65 (0, 0))
  own : OwnP El.ndO wr 106 (fun b => w.heap.size ≤ b ∧ ¬ Fp (.slice KA kn kc) b) (.slice OA on oc) out
  olen : on = out.length
  krow : Row wr 3 1 (.slice KA kn kc) kn (ints kids)
  klen : kn = kids.length
  kfp : ∀ b, Fp (.slice KA kn kc) b → w.heap.size ≤ b
  hb : Below w.heap.size w wr
section
variable {w wr W W' : World} {cp : Array Value} {OA OA' KA KA' : Option Addr} {on oc oc' kn kc kc' : Nat} {out : List Nd} {kids : List Int}
theorem Rw.below (h : Rw w wr cp OA on oc out KA kn kc kids) (hb : Below wr.heap.size wr W) : Rw w W cp OA on oc out KA kn kc kids :=
  ⟨box_same h.bp hb, h.own.below hb, h.olen, h.krow.below hb, h.klen, h.kfp, below_then h.hb hb⟩
theorem Rw.nofp (h : Rw w wr cp OA on oc out KA kn kc kids) : ¬ Fp (.slice OA on oc) w.heap.size := by
  obtain ⟨css, hr, _⟩ := h.own
  exact hr.ne_ h.bp (by decide)
/-- One node more. -/
theorem Rw.push {n : Nd} (h2 : Rw w W cp OA on oc out KA kn kc kids) (ho : Only (Fp (.slice OA on oc)) W W')
    (hown : OwnP El.ndO W' 106 (fun b => w.heap.size ≤ b ∧ ¬ Fp (.slice KA kn kc) b) (.slice OA' (on + 1) oc') (out ++ [n])) : Rw w W' cp OA' (on + 1) oc' (out ++ [n]) KA kn kc kids := by
  have bp := box_only h2.bp ho h2.nofp
  have hk : Row W' 3 1 (.slice KA kn kc) kn (ints kids) := h2.krow.only ho (fun b h3 h4 => (h2.own.fp b h4).2 h3)
  exact ⟨bp, hown, by rw [List.length_append, h2.olen]; rfl, hk, h2.klen, h2.kfp, h2.hb.trans (ho.below (fun b hb => (h2.own.fp b hb).1) h2.hb.size)⟩
/-- One place more. -/
theorem Rw.kid {x : Int} (h2 : Rw w W cp OA on oc out KA kn kc kids) (ho : Only (Fp (.slice KA kn kc)) W W') (hrow : Row W' 3 1 (.slice KA' (kn + 1) kc') (kn + 1) (ints (kids ++ [x])))
    (hf : ∀ b, Fp (.slice KA' (kn + 1) kc') b → Fp (.slice KA kn kc) b ∨ W.heap.size ≤ b) : Rw w W' cp OA on oc out KA' (kn + 1) kc' (kids ++ [x]) := by
  have n4 : ¬ Fp (.slice KA kn kc) w.heap.size := h2.krow.ne_ h2.bp (by decide)
  refine ⟨box_only h2.bp ho n4, ?_, h2.olen, hrow, by rw [List.length_append, h2.klen]; rfl, fun b hb => (hf b hb).elim (h2.kfp b) (Nat.le_trans h2.hb.size), h2.hb.trans (ho.below h2.kfp h2.hb.size)⟩
  have h3 := h2.own.mono (ok' := fun b => (w.heap.size ≤ b ∧ ¬ Fp (.slice KA kn kc) b) ∧ b < W.heap.size) (fun b h1 h2 => ⟨h1, h2⟩)
  refine (h3.only ho (fun b h1 h2 => h1.1.2 h2)).mono (fun b h1 _ => ⟨h1.1.1, fun h4 => ?_⟩)
  rcases hf b h4 with h5 | h5
  · exact h1.1.2 h5
  · exact absurd h1.2 (Nat.not_lt.2 h5)
end
theorem encL_take_next {ks : List Pt} {i : Nat} {p : Pt} (h : ks[i]? = some p) : encL 0 (ks.take (i + 1)) = encL 0 (ks.take i) ++ (enc 0 p).map (shift (szL (ks.take i) : Nat)) := by
  obtain ⟨hi, rfl⟩ := List.getElem?_eq_some_iff.1 h
  rw [List.take_succ_eq_append_getElem hi, encL_append, encL, encL, List.append_nil, enc_shift]
theorem roots_take_next {ks : List Pt} {i : Nat} {p : Pt} (h : ks[i]? = some p) : roots 0 (ks.take (i + 1)) = roots 0 (ks.take i) ++ [((szL (ks.take i) + sz p : Nat) : Int) - 1] := by
  obtain ⟨hi, rfl⟩ := List.getElem?_eq_some_iff.1 h
  rw [List.take_succ_eq_append_getElem hi, roots_append, roots, roots, Nat.zero_add]
theorem kid_put {wx wz W w7 : World} {MA : Option Addr} {u mc : Nat} {a b : Value} {xs : List Value} (MN : wz.heap[wx.heap.size]? = some (.cells #[a, b, .slice MA u mc] 106 (0, 0))) (MR : Row wz 3 1 (.slice MA u mc) u xs) (MF : ∀ b, Fp (.slice MA u mc) b → wx.heap.size ≤ b) (MB : Below wx.heap.size wx wz)
    (hW : Below wz.heap.size wz W) (ho : Only (Fp (.slice MA u mc)) W w7) : w7.heap[wx.heap.size]? = some (.cells #[a, b, .slice MA u mc] 106 (0, 0)) ∧ Below wx.heap.size wx w7 ∧ wx.heap.size ≤ W.heap.size :=
  ⟨box_only (box_same MN hW) ho ((MR.below hW).ne_ (box_same MN hW) (by decide)), (below_then MB hW).trans (ho.below MF (Nat.le_trans MB.size hW.size)), Nat.le_trans MB.size hW.size⟩
set_option maxRecDepth 20000 in
set_option maxHeartbeats 32000000 in
theorem rrow_any : ∀ (N : Nat) (op pl : Int) (ks : List Pt), sz (.mk op pl ks) ≤ N → N ≤ 500 → RT (.mk op pl ks) → ∀ (ok : Nat → Prop) (A : Option Addr) (c m : Nat) (w : World), m = ks.length → Rds El.pt w ok (.slice A m c) ks →
    Calls Try.prog 36 #[.agg #[.int .u8 op, .int .i64 pl, .slice A m c]] w (GetR (enc 0 (.mk op pl ks)) w) := by
  intro N
  induction N with
  | zero =>
    intro op pl ks hp
    have := Pt.sz_pos (.mk op pl ks)
    omega
  | succ N ih =>
    intro op pl ks hp hN hr ok A c m w hm h
    have hop : (op == 0) = false := by rw [beq_eq_false_iff_ne]; exact hr.op_ne
    have hsz : sz (.mk op pl ks) = 1 + szL ks := by rw [sz]
    have hrts : RTs ks := fun q hq => by
      rcases RT.cases hr with ⟨_, _, rfl⟩ | ⟨_, _, _, h4⟩
      · cases hq
      · exact (h4 q hq).1
    have HRT := hide hrts
    have HIH := hide ih
    have H := hide h
    have HM := hide hm
    have hks : m ≤ 500 := by have := szL_ge ks; omega
    have hszl : szL ks ≤ N := by omega
    have i0 : Rw w (w.alloc (.cells #[.int .u8 op, .int .i64 pl, .slice A m c] 65 (0, 0))) #[.int .u8 op, .int .i64 pl, .slice A m c] none 0 0 [] none 0 0 [] :=
      ⟨heap_alloc_new _ _, OwnP.nil _ _ _ _, rfl, Row.nil _ _ _, rfl, fun b hb => (Fp_none hb).elim, (Below.refl _ _).alloc (Nat.le_refl _) _⟩
    have I0 := hide i0
    clear hrts ih h hr hm hsz hp i0
    go_enter Try.func36, Try.ntmps36
    go_wp2
    go_loopw [3, 4, 5] (fun ov kv iv wr => ∃ (i : Nat) (OA : Option Addr) (on oc : Nat) (KA : Option Addr) (kc : Nat), i ≤ m ∧ iv = .int .i64 i ∧ ov = .slice OA on oc ∧ kv = .slice KA i kc ∧ on = szL (ks.take i) ∧ Hid (Rw w wr #[.int .u8 op, .int .i64 pl, .slice A m c] OA on oc (encL 0 (ks.take i)) KA i kc (roots 0 (ks.take i)))) (fun _ _ i _ => m - (intOf i).toNat)
    case atStart => exact ⟨0, none, 0, 0, none, 0, Nat.zero_le _, rfl, rfl, rfl, by simp [szL], I0.out⟩
    case round =>
      clear I0
      obtain ⟨i, OA, on, oc, KA, kc, hi, rfl, rfl, rfl, hon, I⟩ := hrel
      have b0 := blk_cell I.out.bp 0
      have b1 := blk_cell I.out.bp 1
      have b2 := blk_cell I.out.bp 2
      have bl := blk_lt I.out.bp
      simp at b0 b1 b2
      by_cases hlt : i < m
      · obtain ⟨p, hpi⟩ : ∃ p, ks[i]? = some p := ⟨_, List.getElem?_eq_getElem (by rw [← HM.out]; exact hlt)⟩
        obtain ⟨ad, K, kkc, hA, x0, x1, x2, hk⟩ := H.out.pt_at I.out.hb hpi
        have hle := szL_take_le ks i p hpi
        have hsn := szL_take_next ks i p hpi
        have hen := encL_take_next hpi
        have hrn := roots_take_next hpi
        rw [← hon] at hen hrn hsn hle
        have hrp := HRT.out p (List.mem_of_getElem? hpi)
        have hsm := fun n (hn : n ∈ enc 0 p) => enc_small p 0 n hn
        have hel : (enc 0 p).length = sz p := enc_length 0 p
        obtain ⟨ns, hns⟩ : ∃ ns, ns = enc 0 p := ⟨_, rfl⟩
        obtain ⟨tn, htn⟩ : ∃ tn, tn = sz p := ⟨_, rfl⟩
        have hcl : ∀ (po pp : Int) (pk : List Pt), p = .mk po pp pk → Calls Try.prog 36 #[.agg #[.int .u8 po, .int .i64 pp, .slice K pk.length kkc]] wr (GetR (enc 0 p) wr) := fun po pp pk e => by
          subst e
          exact HIH.out po pp pk (by omega) (by omega) hrp ok K kkc pk.length wr rfl (hk.below I.out.hb)
        rw [← hns] at hen hsm hel hcl
        rw [← htn] at hel hrn hle hsm hsn
        obtain ⟨po, pp, pk⟩ := p
        have hc := hcl po pp pk rfl
        simp only [Pt.op, Pt.pl, Pt.kids] at x0 x1 x2
        have HC := hide hc
        have HEN := hide hen
        have HRN := hide hrn
        have HEL := hide hel
        have HSM := hide hsm
        have HSN := hide hsn
        have HON := hide hon
        subst hA
        clear hpi hk hen hrn hrp hsm hel hns hcl hc hsn hon htn
        go_upto_region 9 with (go_at_call 36; refine HC.out.mono ?_; rintro e w2 ⟨TA, tc, rfl, ht2, hb2⟩; have T2 := hide (I.out.below hb2); have HT2 := hide ht2; have HB2 := hide hb2; clear ht2 hb2)
        rw [HEL.out] at HT2
        rw [HEL.out]
        have hon5 : on + tn ≤ 500 := by omega
        go_wp2
        go_loopw [3, 8] (fun ov jv wx => ∃ (j : Nat) (OB : Option Addr) (bn bc : Nat), j ≤ tn ∧ jv = .int .i64 j ∧ ov = .slice OB bn bc ∧ bn = on + j ∧ Hid (Rw w wx #[.int .u8 op, .int .i64 pl, .slice (some ad) m c] OB bn bc (encL 0 (ks.take i) ++ (ns.take j).map (shift (on : Nat))) KA i kc (roots 0 (ks.take i))) ∧ Hid (Rds El.nd wx (fun b => wr.heap.size ≤ b ∧ b < w2.heap.size) (.slice TA tn tc) ns) ∧ Hid (∀ b, Fp (.slice OB bn bc) b → b < wr.heap.size ∨ w2.heap.size ≤ b) ∧ Hid (w2.heap.size ≤ wx.heap.size)) (fun _ j _ => tn - (intOf j).toNat)
        case atStart => exact ⟨0, OA, on, oc, Nat.zero_le _, rfl, rfl, rfl, by rw [List.take_zero, List.map_nil, List.append_nil]; exact T2.out, HT2.out.mono (fun b h1 h2 => ⟨h1, h2⟩), fun b hb => .inl (I.out.own.lt b hb), Nat.le_refl _⟩
        case round =>
          obtain ⟨wx, rfl⟩ : ∃ wx : World, wx = wr := ⟨_, rfl⟩
          obtain ⟨j, OB, bn, bc, hj, rfl, rfl, hbn, J, TR, JF, JS⟩ := hrel
          have hbn5 : bn ≤ 500 := by omega
          have HBNJ := hide hbn
          clear hbn
          by_cases hlt2 : j < tn
          · obtain ⟨nd, hnd⟩ : ∃ n, ns[j]? = some n := ⟨_, List.getElem?_eq_getElem (by rw [HEL.out]; exact hlt2)⟩
            obtain ⟨tad, MK, mk, hTA, e0, e1, e2, hmk⟩ := TR.out.nd_at (Below.refl _ _) hnd
            have hsmn := HSM.out nd (List.mem_of_getElem? hnd)
            have hsk : tn ≤ 500 := by omega
            obtain ⟨no, np, nk⟩ := nd
            simp only at e0 e1 e2 hmk hsmn
            obtain ⟨nm, hnm⟩ : ∃ nm, nm = nk.length := ⟨_, rfl⟩
            rw [← hnm] at e2 hmk hsmn
            have hnm5 : nm ≤ 500 := Nat.le_trans hsmn.1 hsk
            have hk5 : ∀ k ∈ nk, 0 ≤ k ∧ k ≤ 500 := fun k hk => by have := hsmn.2 k hk; omega
            have HK5 := hide hk5
            have HMK := hide hmk
            have HNM := hide hnm
            have HND := hide hnd
            subst hTA
            clear hnd hmk hsmn hnm hk5
            go_wp2
            go_region_held3 (fun w' => w'.cell? (tad.add (j * 3)) = some (.int .u8 no) ∧ w'.cell? ⟨(tad.add (j * 3)).block, (tad.add (j * 3)).off + 1, none⟩ = some (.int .i64 np) ∧ w'.cell? ⟨(tad.add (j * 3)).block, (tad.add (j * 3)).off + 2, none⟩ = some (.slice MK nm mk)) (first | go_keep | assumption) (fail)
            go_wp2
            have hbq : Below wx.heap.size wx (wx.alloc (.cells #[.int .u8 no, .int .i64 np, .slice none 0 0] 106 (0, 0))).drew := ((Below.refl _ _).alloc (Nat.le_refl _) _).drew
            have HBQ := hide hbq
            have hbn0 : (wx.alloc (.cells #[.int .u8 no, .int .i64 np, .slice none 0 0] 106 (0, 0))).drew.heap[wx.heap.size]? = some (.cells #[.int .u8 no, .int .i64 np, .slice none 0 0] 106 (0, 0)) := heap_alloc_new _ _
            have HBN0 := hide hbn0
            clear hbq hbn0
            go_loopw [10] (fun cv wz => ∃ (u : Nat) (MA : Option Addr) (mc : Nat), u ≤ nm ∧ cv = .int .i64 u ∧ Hid (wz.heap[wx.heap.size]? = some (.cells #[.int .u8 no, .int .i64 np, .slice MA u mc] 106 (0, 0))) ∧ Hid (Row wz 3 1 (.slice MA u mc) u (ints ((nk.take u).map (· + (on : Int))))) ∧ Hid (∀ b, Fp (.slice MA u mc) b → wx.heap.size ≤ b) ∧ Hid (Below wx.heap.size wx wz)) (fun i _ => nm - (intOf i).toNat)
            case atStart => exact ⟨0, none, 0, Nat.zero_le _, rfl, HBN0.out, Row.nil _ _ _, fun b hb => (Fp_none hb).elim, HBQ.out⟩
            case round =>
              obtain ⟨wz, rfl⟩ : ∃ wz : World, wz = wr := ⟨_, rfl⟩
              obtain ⟨u, MA, mc, hu, rfl, MN, MR, MF, MB⟩ := hrel
              have q0 := blk_cell MN.out 0
              have q1 := blk_cell MN.out 1
              have q2 := blk_cell MN.out 2
              have qf := blk_frozen MN.out 2
              have ql := blk_lt MN.out
              simp at q0 q1 q2
              have f2 := (MB.out.cell (p := ⟨(tad.add (j * 3)).block, (tad.add (j * 3)).off + 2, none⟩) (World.block_lt_of_cell? wx _ e2)).trans e2
              by_cases hlt3 : u < nm
              · obtain ⟨k, hk⟩ : ∃ k, nk[u]? = some k := ⟨_, List.getElem?_eq_getElem (by rw [← HNM.out]; exact hlt3)⟩
                obtain ⟨hku, hke⟩ := List.getElem?_eq_some_iff.1 hk
                obtain ⟨kad, hkad, -, -, k0⟩ := (HMK.out.below MB.out).int u hku
                rw [hke] at k0
                obtain ⟨hk0, hk1⟩ := HK5.out k (List.mem_of_getElem? hk)
                have fw : IntKind.i64.wrap (k + (on : Int)) = k + on := by rw [IntKind.wrap_i64]; omega
                have HKE := hide hk
                subst hkad
                clear hk hke hku
                go_wp2
                go_region_law ((go_must (refine step_append_row _ rfl (.tmp 58) (.tmp 69) 36 3 rfl _ 1 8 Try.underlying36 inf3 rfl (by decide) (by decide) (.slice MA u mc) u (ints ((nk.take u).map (· + (on : Int)))) (by rfl) (MR.out.below (by repeat (first | exact Below.refl _ _ | refine Below.drew ?_ | refine below_drewN ?_ _ | refine Below.alloc ?_ (by simp) _))) (fun _ => True) _ 1 [.int .i64 (k + on)] (by rfl) (rd_block (cs := [.int .i64 (k + on)]) (blk_new (by simp)) rfl) (by intro v hv; rw [List.mem_singleton] at hv; subst hv; rfl) (by omega) ?_); intro MA' mc' w7 hrow7 honly7 hfp7; obtain ⟨bn7, hB7, hS7⟩ := kid_put MN.out MR.out MF.out MB.out (by repeat (first | exact Below.refl _ _ | refine Below.drew ?_ | refine below_drewN ?_ _ | refine Below.alloc ?_ (by simp) _)) honly7; have p0 := blk_cell bn7 2; have pf := blk_frozen bn7 2; have pl7 := blk_lt bn7; simp at p0; have HR7 := hide hrow7; have HF7 := hide (fun b (hb : Fp (.slice MA' (u + 1) mc') b) => (show wx.heap.size ≤ b from by rcases hfp7 b hb with h | h; exact MF.out b h; exact Nat.le_trans hS7 h)); have BN7 := hide bn7; have HB7 := hide hB7; clear hrow7 honly7 hfp7 bn7 hB7 hS7))
                all_goals go_wp2
                all_goals
                  go_roundw
                  case rel =>
                    refine ⟨u + 1, MA', mc', by omega, by go_num, blk_set BN7.out 2 _, ?_, HF7.out, HB7.out.setCell (Nat.le_refl _) _⟩
                    rw [map_take_next _ HKE.out, ints_append]
                    exact HR7.out.setCell (HR7.out.ne_ BN7.out (by decide)) _
                  case measure => simp [intOf]; omega
              · obtain rfl : u = nm := by omega
                have htk : nk.take u = nk := List.take_of_length_le (by rw [← HNM.out]; exact Nat.le_refl _)
                rw [htk] at MR
                have hlen : (nk.map (· + (on : Int))).length = u := by rw [List.length_map]; exact HNM.out.symm
                have JB := hide (J.out.below MB.out)
                have hx1 : ∀ b, Fp (.slice MA u mc) b → w.heap.size ≤ b ∧ ¬ Fp (.slice KA i kc) b := fun b hb => ⟨Nat.le_trans J.out.hb.size (MF.out b hb), fun hx => absurd (J.out.krow.lt b hx) (Nat.not_lt.2 (MF.out b hb))⟩
                have HX1 := hide hx1
                have hx2 : ∀ b, wx.heap.size ≤ b → w.heap.size ≤ b ∧ ¬ Fp (.slice KA i kc) b := fun b hb => ⟨Nat.le_trans J.out.hb.size hb, fun hx => absurd (J.out.krow.lt b hx) (Nat.not_lt.2 hb)⟩
                have HX2 := hide hx2
                have HLE := hide hlen
                have hjb := JB.out.olen
                have HJB := hide hjb
                clear htk hlen hx1 hx2 hjb
                go_wp2_with (at_builtin; refine wpList_append_rn _ rfl (.tmp 72) (.tmp 74) rfl (fun b => w.heap.size ≤ b ∧ ¬ Fp (.slice KA i kc) b) OB bn bc _ rfl HJB.out.symm (JB.out.own.below (by repeat (first | exact Below.refl _ _ | refine Below.drew ?_ | refine below_drewN ?_ _ | refine Below.alloc ?_ (by simp) _))) _ no np (nk.map (· + (on : Int))) (.slice MA u mc) rfl (blk_new (by rfl)) (by rw [HLE.out]; exact MR.out.alloc _) HX1.out (fun b hb => HX2.out b (Nat.le_trans MB.out.size (Nat.le_trans (by simp) hb))) (by omega) ?_; intro A4 c4 w4 hown4 honly4 hfp4; have HO4 := hide hown4; have HY4 := hide honly4; have HF4 := hide hfp4; clear hown4 honly4 hfp4)
                go_roundw
                case rel =>
                  have hsz := MB.out.size
                  have hs2 := JS.out
                  have hbn := HBNJ.out
                  refine ⟨j + 1, A4, bn + 1, c4, by omega, by go_num, rfl, by omega, ?_, ?_, fun b hb => ?_, ?_⟩
                  · rw [map_take_nd _ HND.out, ← List.append_assoc]
                    exact (JB.out.below (by repeat (first | exact Below.refl _ _ | refine Below.drew ?_ | refine below_drewN ?_ _ | refine Below.alloc ?_ (by simp) _))).push HY4.out HO4.out
                  · refine (TR.out.move (fun b hb hlt => ?_))
                    have hnf : ¬ Fp (.slice OB bn bc) b := fun hx => by
                      rcases JF.out b hx with h | h
                      · exact absurd hb.1 (Nat.not_le.2 h)
                      · exact absurd hb.2 (Nat.not_lt.2 h)
                    refine (HY4.out.block b (by simp; omega) hnf).trans ?_
                    exact ((MB.out.alloc hsz _).block b hlt)
                  · rcases HF4.out b hb with h | h
                    · exact JF.out b h
                    · simp at h
                      exact .inr (by omega)
                  · have h4 := HY4.out.size
                    simp at h4
                    exact hide (by omega)
                case measure => simp [intOf]; omega
          · obtain rfl : j = tn := by omega
            have htk : ns.take j = ns := List.take_of_length_le (by rw [HEL.out]; exact Nat.le_refl _)
            rw [htk] at J
            have fw : IntKind.i64.wrap ((bn : Int) - 1) = bn - 1 := by rw [IntKind.wrap_i64]; omega
            clear htk
            go_wp2_with (at_builtin; refine wpList_append_int _ rfl (.tmp 76) (.tmp 80) rfl KA i kc _ rfl (J.out.krow.below (by repeat (first | exact Below.refl _ _ | refine Below.drew ?_ | refine below_drewN ?_ _ | refine Below.alloc ?_ (by simp) _))) _ ((bn : Int) - 1) rfl (blk_new (by simp)) (by omega) ?_; intro KB kd w7 hrow7 honly7 hfp7; have HR7 := hide hrow7; have HO7 := hide honly7; have HF7 := hide hfp7; clear hrow7 honly7 hfp7)
            go_roundw
            case rel =>
              have hbn := HBNJ.out
              refine ⟨i + 1, OB, bn, bc, KB, kd, by omega, by go_num, rfl, rfl, by rw [HSN.out]; exact hbn, ?_⟩
              rw [HEN.out, HRN.out, ← hbn]
              exact (J.out.below (by repeat (first | exact Below.refl _ _ | refine Below.drew ?_ | refine below_drewN ?_ _ | refine Below.alloc ?_ (by simp) _))).kid HO7.out HR7.out HF7.out
            case measure => simp [intOf]; omega
      · obtain rfl : i = m := by omega
        have hall : ks.take i = ks := List.take_of_length_le (by rw [← HM.out]; exact Nat.le_refl _)
        rw [hall] at I
        have hrl : (roots 0 ks).length = i := I.out.klen.symm
        have HRL := hide hrl
        have hon5 : on ≤ 500 := by
          rw [hall] at hon
          omega
        clear hall hrl hon
        go_wp2_with (at_builtin; refine wpList_append_rn _ rfl (.tmp 82) (.tmp 89) rfl (fun b => w.heap.size ≤ b) OA on oc _ rfl I.out.olen.symm ((I.out.own.mono (fun b h1 _ => h1.1)).below (by repeat (first | exact Below.refl _ _ | refine Below.drew ?_ | refine below_drewN ?_ _ | refine Below.alloc ?_ (by simp) _))) _ op pl (roots 0 ks) (.slice KA i kc) rfl (blk_new (by rfl)) (by rw [HRL.out]; exact I.out.krow.alloc _) I.out.kfp (fun b hb => Nat.le_trans I.out.hb.size (Nat.le_trans (by simp) hb)) (by omega) ?_; intro A4 c4 w4 hown4 honly4 hfp4; have HO4 := hide hown4; have HB4 := hide ((I.out.hb.alloc I.out.hb.size _).trans (honly4.below (fun b hb => (I.out.own.fp b hb).1) (Nat.le_trans I.out.hb.size (by simp)))); clear hown4 honly4 hfp4)
        go_ret
        have he : enc 0 (.mk op pl ks) = encL 0 ks ++ [⟨op, pl, roots 0 ks⟩] := by rw [enc]
        have hl : (enc 0 (.mk op pl ks)).length = on + 1 := by rw [he, List.length_append, ← I.out.olen]; rfl
        refine ⟨A4, c4, by rw [hl]; rfl, ?_, HB4.out⟩
        have h4 := HO4.out.rds.to_nd
        rw [hl, he]
        exact h4
end Go.Proofs.Ytbobjecjopmnfaa
