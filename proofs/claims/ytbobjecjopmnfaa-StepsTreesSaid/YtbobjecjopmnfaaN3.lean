/- The walks of part and Of (the reference's 22). -/
import Derived.Test.YtbobjecjopmnfaaN8
namespace Go.Proofs.Ytbobjecjopmnfaa
open Go.RowKit
open Pt (szL sz encL enc roots encL_length roots_length enc_length shift RT)
/-- What part tells comes back. -/
def GetPart (r : Pt × Int × Bool) (w : World) (e : Ending) (w' : World) : Prop :=
  ∃ A c, e = .returned (.tuple #[.agg #[.int .u8 r.1.op, .int .i64 r.1.pl, .slice A r.1.kids.length c], .int .i64 r.2.1, .bool r.2.2]) ∧ Rds El.pt w' (fun b => w.heap.size ≤ b) (.slice A r.1.kids.length c) r.1.kids ∧ Below w.heap.size w w'
theorem partM_at {f : Nat} {l : List Nd} {i : Nat} {n : Nd} (hn : l[i]? = some n) (hl : n.leaf = false) (hf : n.fork = true) :
    partM (f + 1) l i = match kidsM (partM f l) n.op n.kids.reverse [] i with | none => failP | some r => (.mk n.op 0 r.1, r.2, true) := by
  rw [partM, if_neg (by omega), Int.toNat_natCast, hn]
  simp only [hl, hf, if_true, Bool.false_eq_true, if_false]
  cases kidsM (partM f l) n.op n.kids.reverse [] i <;> rfl
theorem partM_leaf {f : Nat} {l : List Nd} {i : Nat} {n : Nd} (hn : l[i]? = some n) (hl : n.leaf = true) : partM (f + 1) l i = (.mk n.op n.pl [], (i : Int), true) := by
  rw [partM, if_neg (by omega), Int.toNat_natCast, hn]
  simp only [hl, if_true]
theorem partM_bad {f : Nat} {l : List Nd} {i : Nat} {n : Nd} (hn : l[i]? = some n) (hl : n.leaf = false) (hf : n.fork = false) : partM (f + 1) l i = failP := by
  rw [partM, if_neg (by omega), Int.toNat_natCast, hn]
  simp [hl, hf]
theorem partM_neg {f : Nat} {l : List Nd} {i : Int} (h : i < 0) : partM f l i = failP := by
  cases f with
  | zero => rfl
  | succ f => rw [partM, if_pos h]
theorem partM_out {f : Nat} {l : List Nd} {i : Int} (h : (l.length : Int) ≤ i) : partM f l i = failP := by
  cases f with
  | zero => rfl
  | succ f =>
    rw [partM, if_neg (by omega), List.getElem?_eq_none (by omega)]
/-- What part's loop holds. -/
structure Pa (w wr : World) (op pl : Int) (K : Option Addr) (nk : Nat) (kc : Nat) (acc : List Pt) (B : Option Addr) (q cb : Nat) : Prop where
  b4 : wr.heap[w.heap.size]? = some (.cells #[.int .u8 0, .int .i64 0, .slice none 0 0] 65 (0, 0))
  bn : wr.heap[w.heap.size + 1]? = some (.cells #[.int .u8 op, .int .i64 pl, .slice K nk kc] 106 (0, 0))
  own : OwnP El.pt wr 65 (fun b => w.heap.size + 1 < b) (.slice B q cb) acc
  len : q = acc.length
  hb : Below w.heap.size w wr
theorem Pa.below {w wr W : World} {op pl : Int} {K B : Option Addr} {nk kc q cb : Nat} {acc : List Pt} (h : Pa w wr op pl K nk kc acc B q cb) (hB : Below wr.heap.size wr W) : Pa w W op pl K nk kc acc B q cb :=
  ⟨box_same h.b4 hB, box_same h.bn hB, h.own.below hB, h.len, below_then h.hb hB⟩
theorem row_one {w : World} {g t : Nat} {cs : List Value} {sz : Nat} (h : w.heap[g]? = some (.cells cs.toArray t (0, 0))) (hs : cs.length = sz) : Row w t sz (.slice (some ⟨g, 0, none⟩) 1 1) 1 cs := by
  subst hs
  refine ⟨by rw [Nat.one_mul], _, _, rfl, Nat.le_refl _, fun _ => ⟨g, 0, cs.toArray, by rw [Nat.zero_mul], h, by decide, by simp, by simp⟩⟩
/-- A part more, ahead of the others. -/
theorem Pa.cons {w W W3 : World} {G : Nat} (hG : G = W.heap.size) {op pl : Int} {K B B' P : Option Addr} {nk kc q cb cb' pc : Nat} {acc : List Pt} {p : Pt} (h : Pa w W op pl K nk kc acc B q cb) (hp : Rds El.pt W (fun b => w.heap.size + 1 < b) (.slice P p.kids.length pc) p.kids)
    (css : List (List Value)) (ha : All2 (El.pt.P W fun b => w.heap.size + 1 < b) acc css)
    (ho : Only (Fp (.slice (some ⟨G, 0, none⟩) 1 1)) (W.alloc (.cells #[.int .u8 p.op, .int .i64 p.pl, .slice P p.kids.length pc] 65)) W3)
    (hrow : Row W3 65 3 (.slice B' (1 + q) cb') (1 + q) ([.int .u8 p.op, .int .i64 p.pl, .slice P p.kids.length pc] ++ css.flatten))
    (hf : ∀ b, Fp (.slice B' (1 + q) cb') b → Fp (.slice (some ⟨G, 0, none⟩) 1 1) b ∨ (W.alloc (.cells #[.int .u8 p.op, .int .i64 p.pl, .slice P p.kids.length pc] 65)).heap.size ≤ b) : Pa w W3 op pl K nk kc (p :: acc) B' (1 + q) cb' := by
  subst hG
  have hfp : ∀ b, Fp (.slice B' (1 + q) cb') b → W.heap.size ≤ b := fun b hb => by
    rcases hf b hb with ⟨a, _, _, he, _, rfl⟩ | h1
    · injection he with he
      injection he with he
      subst he
      exact Nat.le_refl _
    · rw [World.size_alloc] at h1
      omega
  have hg : ∀ b, Fp (.slice (some ⟨W.heap.size, 0, none⟩) 1 1) b → W.heap.size ≤ b := by
    rintro b ⟨a, _, _, he, _, rfl⟩
    injection he with he
    injection he with he
    subst he
    exact Nat.le_refl _
  have hB : Below W.heap.size W W3 := ((Below.refl _ _).alloc (Nat.le_refl _) _).trans (ho.below hg (by simp))
  have hl4 := blk_lt h.bn
  have up : ∀ {x : Pt} {cs : List Value}, El.pt.P W (fun b => w.heap.size + 1 < b) x cs → El.pt.P W3 (fun b => (w.heap.size + 1 < b) ∧ ¬ Fp (.slice B' (1 + q) cb') b) x cs := fun h => by
    have h1 := El.pt.mono (ok' := fun b => w.heap.size + 1 < b ∧ b < W.heap.size) (fun b hb hlt => ⟨hb, hlt⟩) h
    exact El.pt.mono (fun b hb _ => ⟨hb.1, fun hx => by have := hfp b hx; omega⟩) (El.below h1 hB)
  refine ⟨box_same h.b4 hB, box_same h.bn hB, ⟨[.int .u8 p.op, .int .i64 p.pl, .slice P p.kids.length pc] :: css, ?_, fun b hb => by have := hfp b hb; omega, .cons (up (El.pt_iff.2 ⟨P, pc, rfl, hp⟩)) (forall2_imp (fun _ _ h => up h) ha)⟩, by rw [List.length_cons, ← h.len]; omega, below_then h.hb hB⟩
  rw [List.flatten_cons, List.length_cons, ← h.len, Nat.add_comm q 1]
  exact hrow
theorem Pa.done {w wr : World} {op pl : Int} {K B : Option Addr} {nk kc q cb : Nat} {acc : List Pt} (h : Pa w wr op pl K nk kc acc B q cb) (a b c : Value) :
    Rds El.pt (((wr.setCell ⟨w.heap.size, 0, none⟩ a).setCell ⟨w.heap.size, 1, none⟩ b).setCell ⟨w.heap.size, 2, none⟩ c) (fun x => w.heap.size ≤ x) (.slice B q cb) acc ∧ Below w.heap.size w (((wr.setCell ⟨w.heap.size, 0, none⟩ a).setCell ⟨w.heap.size, 1, none⟩ b).setCell ⟨w.heap.size, 2, none⟩ c) := by
  refine ⟨?_, ((h.hb.setCell (p := ⟨w.heap.size, 0, none⟩) (Nat.le_refl _) _).setCell (p := ⟨w.heap.size, 1, none⟩) (Nat.le_refl _) _).setCell (p := ⟨w.heap.size, 2, none⟩) (Nat.le_refl _) _⟩
  have hm := h.own.move (w' := ((wr.setCell ⟨w.heap.size, 0, none⟩ a).setCell ⟨w.heap.size, 1, none⟩ b).setCell ⟨w.heap.size, 2, none⟩ c) (fun x hx hlt => by
    obtain ⟨o, ho⟩ : ∃ o, wr.heap[x]? = some o := ⟨_, Array.getElem?_eq_getElem hlt⟩
    have hne : x ≠ w.heap.size := by omega
    rw [ho]
    exact blk_far (p := ⟨w.heap.size, 2, none⟩) (blk_far (p := ⟨w.heap.size, 1, none⟩) (blk_far (p := ⟨w.heap.size, 0, none⟩) ho hne _) hne _) hne _)
  exact hm.rds.mono (fun x hx _ => by omega)
set_option maxRecDepth 20000 in
set_option maxHeartbeats 16000000 in
theorem part_any {ok : Nat → Prop} {A : Option Addr} {c ln : Nat} {l : List Nd} {w0 : World} (H0 : Rds El.nd w0 ok (.slice A ln c) l) (hln : ln = l.length) (hf : Fits22 l) :
    ∀ (f : Nat) (i : Int), i < f → -2 ≤ i → i ≤ 1000 → ∀ (w : World), Below w0.heap.size w0 w → Calls Try.prog 64 #[.slice A ln c, .int .i64 i] w (GetPart (partM f l i) w) := by
  intro f
  have hl1 := hf.1
  induction f with
  | zero =>
    intro i hi hi2 hi3 w hW
    rw [partM_neg (by omega)]
    have hi0 : i < 0 := by omega
    clear hW
    go_enter Try.func64, Try.ntmps64
    go_wp2
    refine bodyPost_ret (v := .tuple #[.agg #[.int .u8 0, .int .i64 0, .slice none 0 0], .int .i64 0, .bool false]) (by simp [results, Try.results64, go_sem]) rfl ?_
    exact ⟨none, 0, rfl, Rds.nil, (Below.refl _ _).alloc (Nat.le_refl _) _⟩
  | succ f ih =>
    intro i hi hi2 hi3 w hW
    by_cases hi0 : i < 0
    · rw [partM_neg hi0]
      clear hW
      go_enter Try.func64, Try.ntmps64
      go_wp2
      refine bodyPost_ret (v := .tuple #[.agg #[.int .u8 0, .int .i64 0, .slice none 0 0], .int .i64 0, .bool false]) (by simp [results, Try.results64, go_sem]) rfl ?_
      exact ⟨none, 0, rfl, Rds.nil, (Below.refl _ _).alloc (Nat.le_refl _) _⟩
    · obtain ⟨i, rfl⟩ := Int.eq_ofNat_of_zero_le (Int.not_lt.1 hi0)
      by_cases hil : ln ≤ i
      · rw [partM_out (by omega)]
        clear hW hi0
        go_enter Try.func64, Try.ntmps64
        go_wp2
        refine bodyPost_ret (v := .tuple #[.agg #[.int .u8 0, .int .i64 0, .slice none 0 0], .int .i64 0, .bool false]) (by simp [results, Try.results64, go_sem]) rfl ?_
        exact ⟨none, 0, rfl, Rds.nil, (Below.refl _ _).alloc (Nat.le_refl _) _⟩
      · have hlt : i < ln := by omega
        obtain ⟨n, hn⟩ : ∃ n, l[i]? = some n := ⟨_, List.getElem?_eq_getElem (by rw [← hln]; exact hlt)⟩
        have hW1 : Below w0.heap.size w0 (w.alloc (.cells #[.int .u8 0, .int .i64 0, .slice none 0 0] 65)) := hW.alloc hW.size _
        obtain ⟨ad, K, kc, hA, x0, x1, x2, hk⟩ := H0.nd_at hW1 hn
        have hkl := hf.2 n (List.mem_of_getElem? hn)
        obtain ⟨no, np, nk⟩ := n
        simp only at x0 x1 x2 hk hkl
        obtain ⟨m0, hm0⟩ : ∃ m0, m0 = nk.length := ⟨_, rfl⟩
        rw [← hm0] at x2 hk hkl
        have HN := hide hn
        have HK := hide hk
        have HM0 := hide hm0
        have HW := hide hW
        subst hA
        clear hi0 hil hn hk hm0 hW hW1
        by_cases hlf : (⟨no, np, nk⟩ : Nd).leaf = true
        · obtain ⟨⟨h3, h7⟩, hk0⟩ := leaf_iff.1 hlf
          have hm : m0 = 0 := by rw [HM0.out]; exact hk0
          rw [partM_leaf HN.out hlf]
          subst hm
          clear hlf hk0 ih
          go_enter Try.func64, Try.ntmps64
          go_wp2
          refine bodyPost_ret (v := .tuple #[.agg #[.int .u8 no, .int .i64 np, .slice none 0 0], .int .i64 i, .bool true]) (by simp [results, Try.results64, go_sem]) rfl ?_
          exact ⟨none, 0, rfl, Rds.nil, ((Below.refl _ _).alloc (Nat.le_refl _) _).alloc (by simp) _⟩
        · have hlf' : (⟨no, np, nk⟩ : Nd).leaf = false := by simpa using hlf
          by_cases hfk : (⟨no, np, nk⟩ : Nd).fork = true
          · obtain ⟨ho, rfl, hk2⟩ := fork_iff.1 hfk
            have hpm := partM_at (f := f) HN.out hlf' hfk
            obtain ⟨g, hg⟩ : ∃ g, g = partM f l := ⟨_, rfl⟩
            have hsn := fun (j : Int) (p : Pt) (fr : Int) (h : g j = (p, fr, true)) => partM_sound f j p fr (by rw [← hg]; exact h)
            rw [← hg] at hpm ih
            simp only at hpm
            have HPM := hide hpm
            have HIH := hide ih
            have HSN := hide hsn
            have hm1 : m0 ≤ 1000 := hkl
            have hi3' : (i : Int) ≤ 1000 := hi3
            have p0 : Pa w ((w.alloc (.cells #[.int .u8 0, .int .i64 0, .slice none 0 0] 65 (0, 0))).alloc (.cells #[.int .u8 no, .int .i64 0, .slice K m0 kc] 106 (0, 0))) no 0 K m0 kc [] none 0 0 :=
              ⟨blk_alloc (blk_new (by simp)) _, blk_new (by simp), OwnP.nil _ _ _ _, rfl, ((Below.refl _ _).alloc (Nat.le_refl _) _).alloc (by simp) _⟩
            have P0 := hide p0
            have hk0 : kidsM g no nk.reverse [] i = kidsM g no (nk.take m0).reverse [] i := by rw [HM0.out, List.take_length]
            have HK0 := hide hk0
            have HFK := hide (fork_iff.1 hfk)
            have n3 : ¬ 3 ≤ no := by omega
            have n2 : ¬ m0 < 2 := by rw [HM0.out]; omega
            have ho' : no = 1 ∨ (no = 2 ∧ ¬ no = 1) := by omega
            have HLN := hide hln
            clear hpm ih hsn p0 hk0 hg hkl hlf hlf' hfk hk2 ho hln
            have HFL : Hid (∀ (Q : World), True) := hide fun _ => trivial
            rcases ho' with rfl | ⟨rfl, _⟩
            · go_enter Try.func64, Try.ntmps64
              go_wp2
              go_loopw [8, 9, 10] (fun kv fv iv wr => ∃ (t : Nat) (first : Int) (acc : List Pt) (B : Option Addr) (q cb : Nat), t ≤ m0 ∧ q + t = m0 ∧ iv = .int .i64 ((t : Int) - 1) ∧ 0 ≤ first ∧ first ≤ i ∧ fv = .int .i64 first ∧ kv = .slice B q cb ∧ Hid (kidsM g 1 nk.reverse [] i = kidsM g 1 (nk.take t).reverse acc first) ∧ Hid (Pa w wr 1 0 K m0 kc acc B q cb)) (fun _ _ i _ => (intOf i + 1).toNat)
              case atStart => exact ⟨m0, i, [], none, 0, 0, Nat.le_refl _, Nat.zero_add _, by go_num, by omega, by omega, rfl, rfl, HK0.out, P0.out⟩
              case round =>
                clear P0 HK0
                obtain ⟨t, first, acc, B, q, cb, ht, hqt, rfl, hf0, hf1, rfl, rfl, HKM, P⟩ := hrel
                have b2 := blk_cell P.out.bn 2
                have b0 := blk_cell P.out.bn 0
                have bl := blk_lt P.out.bn
                have r0 := blk_cell P.out.b4 0
                have r1 := blk_cell P.out.b4 1
                have r2 := blk_cell P.out.b4 2
                have rf0 := blk_frozen P.out.b4 0
                have rf1 := blk_frozen P.out.b4 1
                have rf2 := blk_frozen P.out.b4 2
                simp at b0 b2 r0 r1 r2
                rcases t with _ | t
                · have e1 : (((0 : Nat) : Int) - 1) = -1 := rfl
                  rw [e1]
                  go_wp2
                  refine bodyPost_ret (v := .tuple #[.agg #[.int .u8 1, .int .i64 0, .slice B q cb], .int .i64 first, .bool true]) (by simp [results, Try.results64, go_sem, r0, r1, r2]) rfl ?_
                  rw [HPM.out, HKM.out]
                  have hd := P.out.done (.int .u8 1) (.int .i64 0) (.slice B q cb)
                  obtain rfl : q = acc.length := P.out.len
                  exact ⟨B, cb, rfl, hd.1, hd.2⟩
                · have e1 : (((t + 1 : Nat) : Int) - 1) = t := by omega
                  rw [e1]
                  have fw : IntKind.i64.wrap (first - 1) = first - 1 := by rw [IntKind.wrap_i64]; omega
                  have htl : t < nk.length := by rw [← HM0.out]; omega
                  obtain ⟨kd, hKd, -, hltd, x0⟩ := (HK.out.below (below_then HW.out P.out.hb)).int t htl
                  have hst : kidsM g 1 nk.reverse [] i = if nk[t] = first - 1 ∧ (g (first - 1)).2.2 = true ∧ (g (first - 1)).1.op ≠ 1 then kidsM g 1 (nk.take t).reverse ((g (first - 1)).1 :: acc) (g (first - 1)).2.1 else none := by
                    rw [HKM.out, List.take_succ_eq_append_getElem htl, List.reverse_append]
                    rfl
                  obtain ⟨k, hk⟩ : ∃ k, k = nk[t] := ⟨_, rfl⟩
                  rw [← hk] at x0 hst
                  subst hKd
                  clear hk
                  by_cases hk1 : k = first - 1
                  · subst hk1
                    obtain ⟨⟨rp, rfr, rok⟩, hr⟩ : ∃ r, r = g (first - 1) := ⟨_, rfl⟩
                    rw [← hr] at hst
                    simp only at hst
                    have HRR := hide hr
                    have HST := hide hst
                    have HS2 := hide (fun (h : rok = true) => HSN.out (first - 1) rp rfr (by rw [← hr, h]))
                    clear hst hr
                    obtain ⟨css, hc, hcf, ha⟩ := P.out.own
                    have hq1 : q = acc.length := P.out.len
                    rw [← hq1] at hc
                    clear hq1
                    have HCR := hide (fun (W : World) (hB : Below wr.heap.size wr W) => (hc.below hB).rd (fun b hb => hcf b hb))
                    have hca := forall2_imp (fun _ _ h => El.pt.mono (ok' := fun b => w.heap.size + 1 < b) (fun b hb _ => hb.1) h) ha
                    have HCB := hide (fun (W : World) (hB : Below wr.heap.size wr W) => forall2_imp (fun _ _ h => El.below h hB) hca)
                    have HCA := hide hca
                    clear hc hcf ha hca
                    cases rok with
                    | false =>
                      have HKN : Hid (kidsM g 1 nk.reverse [] i = none) := hide (by rw [HST.out, if_neg (by simp)])
                      go_wp2_with (first | (go_at_call 64; (try rw [fw]); refine (HIH.out (first - 1) (by omega) (by omega) (by omega) wr (below_then HW.out P.out.hb)).mono ?_; rw [← HRR.out]; rintro e w2 ⟨PA, pc, rfl, hp2, hb2⟩; have T2 := hide (P.out.below hb2); have HB2 := hide hb2; have d0 := blk_cell T2.out.bn 0; have d2 := blk_cell T2.out.bn 2; have dl := blk_lt T2.out.bn; have sl := blk_lt T2.out.b4; have s0 := blk_cell T2.out.b4 0; have s1 := blk_cell T2.out.b4 1; have s2 := blk_cell T2.out.b4 2; have sf0 := blk_frozen T2.out.b4 0; have sf1 := blk_frozen T2.out.b4 1; have sf2 := blk_frozen T2.out.b4 2; simp at d0 d2 s0 s1 s2; have HP2 := hide (hp2.mono (ok' := fun b => w.heap.size + 1 < b) (fun b hb _ => Nat.lt_of_lt_of_le bl hb)); clear hb2 hp2))
                      clear r0 r1 r2
                      have r0 := s0
                      have r1 := s1
                      have r2 := s2
                      refine bodyPost_ret (v := .tuple #[.agg #[.int .u8 0, .int .i64 0, .slice none 0 0], .int .i64 0, .bool false]) (by simp [results, Try.results64, go_sem, r0, r1, r2, sl]) rfl ?_
                      rw [HPM.out, HKN.out]
                      exact ⟨none, 0, rfl, Rds.nil, by repeat (first | exact T2.out.hb | refine Below.setCell ?_ (by simp) _ | refine Below.alloc ?_ (by have := T2.out.hb.size; simp; omega) _)⟩
                    | true =>
                      obtain ⟨off, ho1, ho2, ho3, -⟩ := HS2.out rfl
                      have ho4 := Pt.sz_pos rp
                      subst ho1
                      by_cases hpo : rp.op = 1
                      · have HKN : Hid (kidsM g 1 nk.reverse [] i = none) := hide (by rw [HST.out, if_neg (by simp [hpo])])
                        have hpb : (rp.op == 1) = true := by rw [beq_iff_eq]; exact hpo
                        go_wp2_with (first | (go_at_call 64; (try rw [fw]); refine (HIH.out (first - 1) (by omega) (by omega) (by omega) wr (below_then HW.out P.out.hb)).mono ?_; rw [← HRR.out]; rintro e w2 ⟨PA, pc, rfl, hp2, hb2⟩; have T2 := hide (P.out.below hb2); have HB2 := hide hb2; have d0 := blk_cell T2.out.bn 0; have d2 := blk_cell T2.out.bn 2; have dl := blk_lt T2.out.bn; have sl := blk_lt T2.out.b4; have s0 := blk_cell T2.out.b4 0; have s1 := blk_cell T2.out.b4 1; have s2 := blk_cell T2.out.b4 2; have sf0 := blk_frozen T2.out.b4 0; have sf1 := blk_frozen T2.out.b4 1; have sf2 := blk_frozen T2.out.b4 2; simp at d0 d2 s0 s1 s2; have HP2 := hide (hp2.mono (ok' := fun b => w.heap.size + 1 < b) (fun b hb _ => Nat.lt_of_lt_of_le bl hb)); clear hb2 hp2))
                        clear r0 r1 r2
                        have r0 := s0
                        have r1 := s1
                        have r2 := s2
                        refine bodyPost_ret (v := .tuple #[.agg #[.int .u8 0, .int .i64 0, .slice none 0 0], .int .i64 0, .bool false]) (by simp [results, Try.results64, go_sem, r0, r1, r2, sl]) rfl ?_
                        rw [HPM.out, HKN.out]
                        exact ⟨none, 0, rfl, Rds.nil, by repeat (first | exact T2.out.hb | refine Below.setCell ?_ (by simp) _ | refine Below.alloc ?_ (by have := T2.out.hb.size; simp; omega) _)⟩
                      · have hpb : (rp.op == 1) = false := by rw [beq_eq_false_iff_ne]; exact hpo
                        have HPO := hide hpo
                        clear hpo
                        go_wp2_with (first | (go_at_call 64; (try rw [fw]); refine (HIH.out (first - 1) (by omega) (by omega) (by omega) wr (below_then HW.out P.out.hb)).mono ?_; rw [← HRR.out]; rintro e w2 ⟨PA, pc, rfl, hp2, hb2⟩; have T2 := hide (P.out.below hb2); have HB2 := hide hb2; have d0 := blk_cell T2.out.bn 0; have d2 := blk_cell T2.out.bn 2; have dl := blk_lt T2.out.bn; have sl := blk_lt T2.out.b4; have s0 := blk_cell T2.out.b4 0; have s1 := blk_cell T2.out.b4 1; have s2 := blk_cell T2.out.b4 2; have sf0 := blk_frozen T2.out.b4 0; have sf1 := blk_frozen T2.out.b4 1; have sf2 := blk_frozen T2.out.b4 2; simp at d0 d2 s0 s1 s2; have HP2 := hide (hp2.mono (ok' := fun b => w.heap.size + 1 < b) (fun b hb _ => Nat.lt_of_lt_of_le bl hb)); clear hb2 hp2) | (at_builtin; refine wpList_append_row _ rfl (.tmp 106) (.tmp 107) 63 65 rfl _ 3 40 Try.underlying63 inf65 rfl (by decide) (by decide) (.slice (some ⟨w2.heap.size + 1, 0, none⟩) 1 1) 1 [.int .u8 rp.op, .int .i64 rp.pl, .slice PA rp.kids.length pc] rfl (row_one (blk_new (by simp)) rfl) (fun b => w.heap.size + 1 < b) (.slice B q cb) q css.flatten rfl (HCR.out _ ((HB2.out.alloc HB2.out.size _).alloc (Nat.le_trans HB2.out.size (by simp)) _)) (all2_one HCA.out) (by omega) ?_; intro B' cb' w3 hrow3 honly3 hfp3; have T3 := hide (Pa.cons (W := w2.alloc (.cells #[.int .u8 rp.op, .int .i64 rp.pl, .slice PA rp.kids.length pc] 65)) (by simp) (T2.out.below (by repeat (first | exact Below.refl _ _ | refine Below.drew ?_ | refine below_drewN ?_ _ | refine Below.alloc ?_ (by simp) _))) (HP2.out.below (by repeat (first | exact Below.refl _ _ | refine Below.drew ?_ | refine below_drewN ?_ _ | refine Below.alloc ?_ (by simp) _))) css (HCB.out _ (HB2.out.alloc HB2.out.size _)) honly3 hrow3 hfp3); clear hrow3 honly3 hfp3))
                        go_roundw
                        case rel =>
                          refine ⟨t, off, rp :: acc, B', 1 + q, cb', by omega, by omega, by go_num, by omega, by omega, rfl, rfl, ?_, T3.out⟩
                          rw [HST.out, if_pos (by first | exact ⟨rfl, rfl, HPO.out⟩ | exact ⟨trivial, trivial, HPO.out⟩ | simp [HPO.out])]
                          exact hide rfl
                        case measure => simp [intOf]
                  · have HKN : Hid (kidsM g 1 nk.reverse [] i = none) := hide (by rw [hst, if_neg (fun h => hk1 h.1)])
                    have hkb : (k != first - 1) = true := by simpa using hk1
                    clear hst hk1
                    go_wp2
                    refine bodyPost_ret (v := .tuple #[.agg #[.int .u8 0, .int .i64 0, .slice none 0 0], .int .i64 0, .bool false]) (by simp [results, Try.results64, go_sem, r0, r1, r2]) rfl ?_
                    rw [HPM.out, HKN.out]
                    exact ⟨none, 0, rfl, Rds.nil, by repeat (first | exact P.out.hb | refine Below.setCell ?_ (by simp) _ | refine Below.alloc ?_ (by have := P.out.hb.size; simp; omega) _)⟩
            · go_enter Try.func64, Try.ntmps64
              go_wp2
              go_loopw [8, 9, 10] (fun kv fv iv wr => ∃ (t : Nat) (first : Int) (acc : List Pt) (B : Option Addr) (q cb : Nat), t ≤ m0 ∧ q + t = m0 ∧ iv = .int .i64 ((t : Int) - 1) ∧ 0 ≤ first ∧ first ≤ i ∧ fv = .int .i64 first ∧ kv = .slice B q cb ∧ Hid (kidsM g 2 nk.reverse [] i = kidsM g 2 (nk.take t).reverse acc first) ∧ Hid (Pa w wr 2 0 K m0 kc acc B q cb)) (fun _ _ i _ => (intOf i + 1).toNat)
              case atStart => exact ⟨m0, i, [], none, 0, 0, Nat.le_refl _, Nat.zero_add _, by go_num, by omega, by omega, rfl, rfl, HK0.out, P0.out⟩
              case round =>
                clear P0 HK0
                obtain ⟨t, first, acc, B, q, cb, ht, hqt, rfl, hf0, hf1, rfl, rfl, HKM, P⟩ := hrel
                have b2 := blk_cell P.out.bn 2
                have b0 := blk_cell P.out.bn 0
                have bl := blk_lt P.out.bn
                have r0 := blk_cell P.out.b4 0
                have r1 := blk_cell P.out.b4 1
                have r2 := blk_cell P.out.b4 2
                have rf0 := blk_frozen P.out.b4 0
                have rf1 := blk_frozen P.out.b4 1
                have rf2 := blk_frozen P.out.b4 2
                simp at b0 b2 r0 r1 r2
                rcases t with _ | t
                · have e1 : (((0 : Nat) : Int) - 1) = -1 := rfl
                  rw [e1]
                  go_wp2
                  refine bodyPost_ret (v := .tuple #[.agg #[.int .u8 2, .int .i64 0, .slice B q cb], .int .i64 first, .bool true]) (by simp [results, Try.results64, go_sem, r0, r1, r2]) rfl ?_
                  rw [HPM.out, HKM.out]
                  have hd := P.out.done (.int .u8 2) (.int .i64 0) (.slice B q cb)
                  obtain rfl : q = acc.length := P.out.len
                  exact ⟨B, cb, rfl, hd.1, hd.2⟩
                · have e1 : (((t + 1 : Nat) : Int) - 1) = t := by omega
                  rw [e1]
                  have fw : IntKind.i64.wrap (first - 1) = first - 1 := by rw [IntKind.wrap_i64]; omega
                  have htl : t < nk.length := by rw [← HM0.out]; omega
                  obtain ⟨kd, hKd, -, hltd, x0⟩ := (HK.out.below (below_then HW.out P.out.hb)).int t htl
                  have hst : kidsM g 2 nk.reverse [] i = if nk[t] = first - 1 ∧ (g (first - 1)).2.2 = true ∧ (g (first - 1)).1.op ≠ 2 then kidsM g 2 (nk.take t).reverse ((g (first - 1)).1 :: acc) (g (first - 1)).2.1 else none := by
                    rw [HKM.out, List.take_succ_eq_append_getElem htl, List.reverse_append]
                    rfl
                  obtain ⟨k, hk⟩ : ∃ k, k = nk[t] := ⟨_, rfl⟩
                  rw [← hk] at x0 hst
                  subst hKd
                  clear hk
                  by_cases hk1 : k = first - 1
                  · subst hk1
                    obtain ⟨⟨rp, rfr, rok⟩, hr⟩ : ∃ r, r = g (first - 1) := ⟨_, rfl⟩
                    rw [← hr] at hst
                    simp only at hst
                    have HRR := hide hr
                    have HST := hide hst
                    have HS2 := hide (fun (h : rok = true) => HSN.out (first - 1) rp rfr (by rw [← hr, h]))
                    clear hst hr
                    obtain ⟨css, hc, hcf, ha⟩ := P.out.own
                    have hq1 : q = acc.length := P.out.len
                    rw [← hq1] at hc
                    clear hq1
                    have HCR := hide (fun (W : World) (hB : Below wr.heap.size wr W) => (hc.below hB).rd (fun b hb => hcf b hb))
                    have hca := forall2_imp (fun _ _ h => El.pt.mono (ok' := fun b => w.heap.size + 1 < b) (fun b hb _ => hb.1) h) ha
                    have HCB := hide (fun (W : World) (hB : Below wr.heap.size wr W) => forall2_imp (fun _ _ h => El.below h hB) hca)
                    have HCA := hide hca
                    clear hc hcf ha hca
                    cases rok with
                    | false =>
                      have HKN : Hid (kidsM g 2 nk.reverse [] i = none) := hide (by rw [HST.out, if_neg (by simp)])
                      go_wp2_with (first | (go_at_call 64; (try rw [fw]); refine (HIH.out (first - 1) (by omega) (by omega) (by omega) wr (below_then HW.out P.out.hb)).mono ?_; rw [← HRR.out]; rintro e w2 ⟨PA, pc, rfl, hp2, hb2⟩; have T2 := hide (P.out.below hb2); have HB2 := hide hb2; have d0 := blk_cell T2.out.bn 0; have d2 := blk_cell T2.out.bn 2; have dl := blk_lt T2.out.bn; have sl := blk_lt T2.out.b4; have s0 := blk_cell T2.out.b4 0; have s1 := blk_cell T2.out.b4 1; have s2 := blk_cell T2.out.b4 2; have sf0 := blk_frozen T2.out.b4 0; have sf1 := blk_frozen T2.out.b4 1; have sf2 := blk_frozen T2.out.b4 2; simp at d0 d2 s0 s1 s2; have HP2 := hide (hp2.mono (ok' := fun b => w.heap.size + 1 < b) (fun b hb _ => Nat.lt_of_lt_of_le bl hb)); clear hb2 hp2))
                      clear r0 r1 r2
                      have r0 := s0
                      have r1 := s1
                      have r2 := s2
                      refine bodyPost_ret (v := .tuple #[.agg #[.int .u8 0, .int .i64 0, .slice none 0 0], .int .i64 0, .bool false]) (by simp [results, Try.results64, go_sem, r0, r1, r2, sl]) rfl ?_
                      rw [HPM.out, HKN.out]
                      exact ⟨none, 0, rfl, Rds.nil, by repeat (first | exact T2.out.hb | refine Below.setCell ?_ (by simp) _ | refine Below.alloc ?_ (by have := T2.out.hb.size; simp; omega) _)⟩
                    | true =>
                      obtain ⟨off, ho1, ho2, ho3, -⟩ := HS2.out rfl
                      have ho4 := Pt.sz_pos rp
                      subst ho1
                      by_cases hpo : rp.op = 2
                      · have HKN : Hid (kidsM g 2 nk.reverse [] i = none) := hide (by rw [HST.out, if_neg (by simp [hpo])])
                        have hpb : (rp.op == 2) = true := by rw [beq_iff_eq]; exact hpo
                        go_wp2_with (first | (go_at_call 64; (try rw [fw]); refine (HIH.out (first - 1) (by omega) (by omega) (by omega) wr (below_then HW.out P.out.hb)).mono ?_; rw [← HRR.out]; rintro e w2 ⟨PA, pc, rfl, hp2, hb2⟩; have T2 := hide (P.out.below hb2); have HB2 := hide hb2; have d0 := blk_cell T2.out.bn 0; have d2 := blk_cell T2.out.bn 2; have dl := blk_lt T2.out.bn; have sl := blk_lt T2.out.b4; have s0 := blk_cell T2.out.b4 0; have s1 := blk_cell T2.out.b4 1; have s2 := blk_cell T2.out.b4 2; have sf0 := blk_frozen T2.out.b4 0; have sf1 := blk_frozen T2.out.b4 1; have sf2 := blk_frozen T2.out.b4 2; simp at d0 d2 s0 s1 s2; have HP2 := hide (hp2.mono (ok' := fun b => w.heap.size + 1 < b) (fun b hb _ => Nat.lt_of_lt_of_le bl hb)); clear hb2 hp2))
                        clear r0 r1 r2
                        have r0 := s0
                        have r1 := s1
                        have r2 := s2
                        refine bodyPost_ret (v := .tuple #[.agg #[.int .u8 0, .int .i64 0, .slice none 0 0], .int .i64 0, .bool false]) (by simp [results, Try.results64, go_sem, r0, r1, r2, sl]) rfl ?_
                        rw [HPM.out, HKN.out]
                        exact ⟨none, 0, rfl, Rds.nil, by repeat (first | exact T2.out.hb | refine Below.setCell ?_ (by simp) _ | refine Below.alloc ?_ (by have := T2.out.hb.size; simp; omega) _)⟩
                      · have hpb : (rp.op == 2) = false := by rw [beq_eq_false_iff_ne]; exact hpo
                        have HPO := hide hpo
                        clear hpo
                        go_wp2_with (first | (go_at_call 64; (try rw [fw]); refine (HIH.out (first - 1) (by omega) (by omega) (by omega) wr (below_then HW.out P.out.hb)).mono ?_; rw [← HRR.out]; rintro e w2 ⟨PA, pc, rfl, hp2, hb2⟩; have T2 := hide (P.out.below hb2); have HB2 := hide hb2; have d0 := blk_cell T2.out.bn 0; have d2 := blk_cell T2.out.bn 2; have dl := blk_lt T2.out.bn; have sl := blk_lt T2.out.b4; have s0 := blk_cell T2.out.b4 0; have s1 := blk_cell T2.out.b4 1; have s2 := blk_cell T2.out.b4 2; have sf0 := blk_frozen T2.out.b4 0; have sf1 := blk_frozen T2.out.b4 1; have sf2 := blk_frozen T2.out.b4 2; simp at d0 d2 s0 s1 s2; have HP2 := hide (hp2.mono (ok' := fun b => w.heap.size + 1 < b) (fun b hb _ => Nat.lt_of_lt_of_le bl hb)); clear hb2 hp2) | (at_builtin; refine wpList_append_row _ rfl (.tmp 106) (.tmp 107) 63 65 rfl _ 3 40 Try.underlying63 inf65 rfl (by decide) (by decide) (.slice (some ⟨w2.heap.size + 1, 0, none⟩) 1 1) 1 [.int .u8 rp.op, .int .i64 rp.pl, .slice PA rp.kids.length pc] rfl (row_one (blk_new (by simp)) rfl) (fun b => w.heap.size + 1 < b) (.slice B q cb) q css.flatten rfl (HCR.out _ ((HB2.out.alloc HB2.out.size _).alloc (Nat.le_trans HB2.out.size (by simp)) _)) (all2_one HCA.out) (by omega) ?_; intro B' cb' w3 hrow3 honly3 hfp3; have T3 := hide (Pa.cons (W := w2.alloc (.cells #[.int .u8 rp.op, .int .i64 rp.pl, .slice PA rp.kids.length pc] 65)) (by simp) (T2.out.below (by repeat (first | exact Below.refl _ _ | refine Below.drew ?_ | refine below_drewN ?_ _ | refine Below.alloc ?_ (by simp) _))) (HP2.out.below (by repeat (first | exact Below.refl _ _ | refine Below.drew ?_ | refine below_drewN ?_ _ | refine Below.alloc ?_ (by simp) _))) css (HCB.out _ (HB2.out.alloc HB2.out.size _)) honly3 hrow3 hfp3); clear hrow3 honly3 hfp3))
                        go_roundw
                        case rel =>
                          refine ⟨t, off, rp :: acc, B', 1 + q, cb', by omega, by omega, by go_num, by omega, by omega, rfl, rfl, ?_, T3.out⟩
                          rw [HST.out, if_pos (by first | exact ⟨rfl, rfl, HPO.out⟩ | exact ⟨trivial, trivial, HPO.out⟩ | simp [HPO.out])]
                          exact hide rfl
                        case measure => simp [intOf]
                  · have HKN : Hid (kidsM g 2 nk.reverse [] i = none) := hide (by rw [hst, if_neg (fun h => hk1 h.1)])
                    have hkb : (k != first - 1) = true := by simpa using hk1
                    clear hst hk1
                    go_wp2
                    refine bodyPost_ret (v := .tuple #[.agg #[.int .u8 0, .int .i64 0, .slice none 0 0], .int .i64 0, .bool false]) (by simp [results, Try.results64, go_sem, r0, r1, r2]) rfl ?_
                    rw [HPM.out, HKN.out]
                    exact ⟨none, 0, rfl, Rds.nil, by repeat (first | exact P.out.hb | refine Below.setCell ?_ (by simp) _ | refine Below.alloc ?_ (by have := P.out.hb.size; simp; omega) _)⟩
          · have hfk' : (⟨no, np, nk⟩ : Nd).fork = false := by simpa using hfk
            rw [partM_bad HN.out hlf' hfk']
            have hl' : ¬ ((3 ≤ no ∧ no ≤ 7) ∧ nk.length = 0) := fun h => hlf (leaf_iff.2 h)
            have hf' : ¬ ((no = 1 ∨ no = 2) ∧ np = 0 ∧ 2 ≤ nk.length) := fun h => hfk (fork_iff.2 h)
            rw [← HM0.out] at hl' hf'
            have HLN := hide hln
            have hcase : (3 ≤ no ∧ no ≤ 7 ∧ ¬ m0 = 0) ∨ (3 ≤ no ∧ ¬ no ≤ 7) ∨ (¬ 3 ≤ no ∧ no ≠ 1 ∧ no ≠ 2) ∨ (no = 1 ∧ m0 < 2) ∨ (no = 2 ∧ m0 < 2) ∨ (no = 1 ∧ ¬ m0 < 2 ∧ np ≠ 0) ∨ (no = 2 ∧ ¬ m0 < 2 ∧ np ≠ 0) := by omega
            clear hl' hf' hlf hfk hlf' hfk' ih hln hkl
            rcases hcase with ⟨c1, c2, c3⟩ | ⟨c1, c2⟩ | ⟨c1, c2, c3⟩ | ⟨rfl, c1⟩ | ⟨rfl, c1⟩ | ⟨rfl, c1, c2⟩ | ⟨rfl, c1, c2⟩
            · have d1 : (no != 1) = true := by rw [bne_iff_ne]; omega
              have d2 : (no != 2) = true := by rw [bne_iff_ne]; omega
              have d3 : ((m0 : Int) == 0) = false := by rw [beq_eq_false_iff_ne]; omega
              go_enter Try.func64, Try.ntmps64
              go_wp2
              refine bodyPost_ret (v := .tuple #[.agg #[.int .u8 0, .int .i64 0, .slice none 0 0], .int .i64 0, .bool false]) (by simp [results, Try.results64, go_sem]) rfl ?_
              exact ⟨none, 0, rfl, Rds.nil, by repeat (first | exact Below.refl _ _ | refine Below.setCell ?_ (by simp) _ | refine Below.alloc ?_ (by simp) _)⟩
            · have d1 : (no != 1) = true := by rw [bne_iff_ne]; omega
              have d2 : (no != 2) = true := by rw [bne_iff_ne]; omega
              go_enter Try.func64, Try.ntmps64
              go_wp2
              refine bodyPost_ret (v := .tuple #[.agg #[.int .u8 0, .int .i64 0, .slice none 0 0], .int .i64 0, .bool false]) (by simp [results, Try.results64, go_sem]) rfl ?_
              exact ⟨none, 0, rfl, Rds.nil, by repeat (first | exact Below.refl _ _ | refine Below.setCell ?_ (by simp) _ | refine Below.alloc ?_ (by simp) _)⟩
            · have d1 : (no != 1) = true := by rw [bne_iff_ne]; omega
              have d2 : (no != 2) = true := by rw [bne_iff_ne]; omega
              go_enter Try.func64, Try.ntmps64
              go_wp2
              refine bodyPost_ret (v := .tuple #[.agg #[.int .u8 0, .int .i64 0, .slice none 0 0], .int .i64 0, .bool false]) (by simp [results, Try.results64, go_sem]) rfl ?_
              exact ⟨none, 0, rfl, Rds.nil, by repeat (first | exact Below.refl _ _ | refine Below.setCell ?_ (by simp) _ | refine Below.alloc ?_ (by simp) _)⟩
            · go_enter Try.func64, Try.ntmps64
              go_wp2
              refine bodyPost_ret (v := .tuple #[.agg #[.int .u8 0, .int .i64 0, .slice none 0 0], .int .i64 0, .bool false]) (by simp [results, Try.results64, go_sem]) rfl ?_
              exact ⟨none, 0, rfl, Rds.nil, by repeat (first | exact Below.refl _ _ | refine Below.setCell ?_ (by simp) _ | refine Below.alloc ?_ (by simp) _)⟩
            · go_enter Try.func64, Try.ntmps64
              go_wp2
              refine bodyPost_ret (v := .tuple #[.agg #[.int .u8 0, .int .i64 0, .slice none 0 0], .int .i64 0, .bool false]) (by simp [results, Try.results64, go_sem]) rfl ?_
              exact ⟨none, 0, rfl, Rds.nil, by repeat (first | exact Below.refl _ _ | refine Below.setCell ?_ (by simp) _ | refine Below.alloc ?_ (by simp) _)⟩
            · have d1 : (np != 0) = true := by rw [bne_iff_ne]; omega
              go_enter Try.func64, Try.ntmps64
              go_wp2
              refine bodyPost_ret (v := .tuple #[.agg #[.int .u8 0, .int .i64 0, .slice none 0 0], .int .i64 0, .bool false]) (by simp [results, Try.results64, go_sem]) rfl ?_
              exact ⟨none, 0, rfl, Rds.nil, by repeat (first | exact Below.refl _ _ | refine Below.setCell ?_ (by simp) _ | refine Below.alloc ?_ (by simp) _)⟩
            · have d1 : (np != 0) = true := by rw [bne_iff_ne]; omega
              go_enter Try.func64, Try.ntmps64
              go_wp2
              refine bodyPost_ret (v := .tuple #[.agg #[.int .u8 0, .int .i64 0, .slice none 0 0], .int .i64 0, .bool false]) (by simp [results, Try.results64, go_sem]) rfl ?_
              exact ⟨none, 0, rfl, Rds.nil, by repeat (first | exact Below.refl _ _ | refine Below.setCell ?_ (by simp) _ | refine Below.alloc ?_ (by simp) _)⟩
end Go.Proofs.Ytbobjecjopmnfaa
