/- The walk of Take's closure, that calls itself. -/
import Derived.Test.YtbobjecjopmnfaaK3
import Derived.Test.YtbobjecjopmnfaaK9
import Derived.Test.YtbobjecjopmnfaaKA
namespace Go.Proofs.Ytbobjecjopmnfaa
open Go.RowKit
open Pt (szL sz encL enc roots encL_length roots_length enc_length shift RT)
section
variable {ops : Array Oper} {rest : List Oper} {o : Oper} {a : Act} {Q : Exit → Act → World → Prop}
theorem wpList_append_tree (w : World) (hgd : o.guard = none) (s x : Operand) (ho : o.op = .call { callee := .builtin .append, args := #[s, x], argTypes := #[79, 79] })
    (ok : Nat → Prop) (A : Option Addr) (n c : Nat) (xs : List (List Nd)) (hs : a.eval s = .slice A n c) (hxn : xs.length = n) (hown : OwnP (El.row El.nd) w 59 ok (.slice A n c) xs)
    (g : Nat) (TA : Option Addr) (rl tc : Nat) (row : List Nd) (hrl : row.length = rl) (hx : a.eval x = .slice (some ⟨g, 0, none⟩) 1 1) (hg : w.heap[g]? = some (.cells #[.slice TA rl tc] 59 (0, 0)))
    (hr : Rds El.nd w (fun b => ok b ∧ ¬ Fp (.slice A n c) b) (.slice TA rl tc) row) (hnew : ∀ b, w.heap.size ≤ b → ok b) (hn : n ≤ 2000000)
    (h : ∀ A' c' w', OwnP (El.row El.nd) w' 59 ok (.slice A' (n + 1) c') (xs ++ [row]) → Only (Fp (.slice A n c)) w w' → (∀ b, Fp (.slice A' (n + 1) c') b → Fp (.slice A n c) b ∨ w.heap.size ≤ b) → wpList Try.prog ops Q rest (a.put o.dst (.slice A' (n + 1) c')) w') : wpList Try.prog ops Q (o :: rest) a w := by
  subst hxn; subst hrl
  obtain ⟨css, h1, h2, h3⟩ := hown
  refine wpList_append_row (P := Try.prog) w hgd s x 79 59 ho _ 1 24 Try.underlying79 inf59 rfl (by decide) (by decide) (.slice A xs.length c) xs.length css.flatten hs h1 (fun _ => True) _ 1 [.slice TA row.length tc] hx (rd_block (cs := [.slice TA row.length tc]) hg rfl) (by intro u hu; rw [List.mem_singleton] at hu; subst hu; rfl) (by omega) ?_
  intro A' c' w' hrow honly hfp
  refine h A' c' w' (OwnP.grown (m := xs.length + 1) (ys := [row]) (dss := [[.slice TA row.length tc]]) h2 h3 (.cons ⟨TA, tc, rfl, hr⟩ .nil) ?_ (by simp) honly hfp hnew) honly hfp
  have e : ([[Value.slice TA row.length tc]] : List (List Value)).flatten = [.slice TA row.length tc] := rfl
  rw [e]
  exact hrow
end
/-- Take's four boxes. -/
structure Tak (w : World) (A : Option Addr) (c : Nat) (l : List Nd) (leaf : Int) (BA : Option Addr) (bc : Nat) (by_ : List Nd) (bt bl bb ba : Nat) : Prop where
  ht : w.heap[bt]? = some (.cells #[.slice A l.length c] 59 (0, 0))
  hl : w.heap[bl]? = some (.cells #[.int .i64 leaf] 3 (0, 0))
  hb : w.heap[bb]? = some (.cells #[.slice BA by_.length bc] 59 (0, 0))
  ha : w.heap[ba]? = some (.cells #[.func (.func 68) #[] #[.pointer (some ⟨bt, 0, none⟩), .pointer (some ⟨bl, 0, none⟩), .pointer (some ⟨bb, 0, none⟩), .pointer (some ⟨ba, 0, none⟩)]] 112 (0, 0))
theorem Tak.below {w w' : World} {A BA : Option Addr} {c bc bt bl bb ba : Nat} {l by_ : List Nd} {leaf : Int} (h : Tak w A c l leaf BA bc by_ bt bl bb ba) (hb : Below w.heap.size w w') : Tak w' A c l leaf BA bc by_ bt bl bb ba :=
  ⟨box_same h.ht hb, box_same h.hl hb, box_same h.hb hb, box_same h.ha hb⟩
/-- What a callee made, stored into the caller's own result. -/
theorem MadeT.back {w W w' : World} {l : List Nd} {e : Ending} {cs : Array Value} (hB : Below w.heap.size w W) (hg : W.heap[w.heap.size]? = some (.cells cs 59 (0, 0))) (h : MadeT l W e w') :
    ∃ A c, e = .returned (.agg #[.slice A l.length c]) ∧ w'.heap[w.heap.size]? = some (.cells cs 59 (0, 0)) ∧ MadeT l w e (w'.setCell ⟨w.heap.size, 0, none⟩ (.slice A l.length c)) := by
  obtain ⟨A, c, rfl, h1, h2⟩ := h
  have hg' := box_same hg h2
  refine ⟨A, c, rfl, hg', A, c, rfl, ?_, (below_then hB h2).setCell (Nat.le_refl _) _⟩
  exact (h1.mono (fun b hb _ => Nat.le_trans hB.size hb)).poke hg' (by decide) (by decide) _
set_option maxRecDepth 20000 in
set_option maxHeartbeats 8000000 in
theorem take1_any {okt okb : Nat → Prop} {A BA : Option Addr} {c bc bt bl bb ba : Nat} {l : List Nd} {q : Pt} {leaf : Int} {w0 : World} (H0 : Rds El.nd w0 okt (.slice A l.length c) l) (H1 : Rds El.nd w0 okb (.slice BA (encO q).length bc) (encO q)) (hl : l.length ≤ 300) (hq : TN q) (hql : lenO q ≤ 300) :
    ∀ (N : Nat) (p : Pt), sz p ≤ N → ∀ (off : Nat) (w : World), RT p → Here l off p → Below w0.heap.size w0 w → Tak w A c l leaf BA bc (encO q) bt bl bb ba →
    Calls Try.prog 68 #[.int .i64 ((off + sz p : Nat) - 1 : Int), .pointer (some ⟨bt, 0, none⟩), .pointer (some ⟨bl, 0, none⟩), .pointer (some ⟨bb, 0, none⟩), .pointer (some ⟨ba, 0, none⟩)] w (MadeT (encO (anewT off leaf q p)) w) := by
  intro N
  induction N with
  | zero =>
    intro p hp
    have := Pt.sz_pos p
    omega
  | succ N ih =>
    rintro ⟨op, pl, ks⟩ hp off w hr hh hW hT
    obtain ⟨hhl, hn⟩ := hh.kids
    have hsz : sz (.mk op pl ks) = 1 + szL ks := by rw [sz]
    have hat : ((off + sz (.mk op pl ks) : Nat) - 1 : Int) = ((off + szL ks : Nat) : Int) := by rw [hsz]; omega
    have hle : anewT off leaf q (.mk op pl ks) = if ((off + szL ks : Nat) : Int) = leaf then q else if ks.length = 0 then .mk op pl [] else putT op (anewL off leaf q ks) := by rw [anewT, hat]
    rw [hat, hle]
    have hlt := (List.getElem?_eq_some_iff.1 hn).1
    obtain ⟨i, hi⟩ : ∃ i, i = off + szL ks := ⟨_, rfl⟩
    rw [← hi] at hn hlt ⊢
    have hW1 : Below w0.heap.size w0 (w.alloc (.cells #[.slice none 0 0] 59)) := hW.alloc hW.size _
    obtain ⟨ad, K, kc, hA, x0, x1, x2, hk⟩ := H0.nd_at hW1 hn
    simp only at x0 x1 x2 hk
    rw [roots_length] at x2 hk
    have hT1 := hT.below ((Below.refl _ _).alloc (Nat.le_refl _) (.cells #[.slice none 0 0] 59))
    have HT := hide hT
    have HW := hide hW
    have HN := hide hn
    have HK := hide hk
    have HL := hide hhl
    have HII := hide hi
    have HSZ := hide hsz
    have t0 := blk_cell hT1.ht 0
    have l0 := blk_cell hT1.hl 0
    have tlt := blk_lt hT.ht
    have llt := blk_lt hT.hl
    have blt := blk_lt hT.hb
    have alt := blk_lt hT.ha
    have b0 := blk_cell hT1.hb 0
    have a0 := blk_cell hT1.ha 0
    simp at t0 l0 b0 a0
    clear hn hk hhl hat hi hh hsz hle hT hT1 hW hW1
    subst hA
    by_cases hat : (i : Int) = leaf
    · rw [if_pos hat]
      have hc := fun W hb => copied_any (encO q) W (H1.below hb) (encO_fits hq (by omega)).fits
      have HC := hide hc
      subst hat
      clear hc ih
      go_enter Try.func68, Try.ntmps68
      go_wp2_with (go_at_call 67; refine (HC.out _ (HW.out.trans (Below.mono (by repeat (first | exact Below.refl _ _ | refine Below.drew ?_ | refine below_drewN ?_ _ | refine Below.alloc ?_ (by simp) _)) HW.out.size))).mono ?_; rintro e w5 hm5; obtain ⟨A5, c5, rfl, hg5, hm6⟩ := MadeT.back (w := w) (cs := #[.slice none 0 0]) (by repeat (first | exact Below.refl _ _ | refine Below.drew ?_ | refine below_drewN ?_ _ | refine Below.alloc ?_ (by simp) _)) (by repeat (first | exact heap_alloc_new _ _ | refine blk_alloc ?_ _)) hm5; have r0 := blk_cell hg5 0; have rf := blk_frozen hg5 0; have rl := blk_lt hg5; simp at r0; have HM6 := hide hm6; clear hm5 hm6 hg5)
      exact bodyPost_ret (v := .agg #[.slice A5 (encO q).length c5]) (by simp [results, Try.results68, go_sem, r0]) rfl HM6.out
    · rw [if_neg hat]
      have hnl : ((i : Int) == leaf) = false := by rw [beq_eq_false_iff_ne]; exact hat
      clear hat
      rcases RT.cases hr with ⟨h3, h7, rfl⟩ | ⟨h1, rfl, h2, h4⟩
      · have hlb : leafB op = true := by simp [leafB, h3, h7]
        have hen : encO (.mk op pl []) = [⟨op, pl, []⟩] := by
          rw [encO_RT (by rw [RT]; exact .inl ⟨h3, h7, rfl⟩), enc]
          rfl
        rw [if_pos (show ([] : List Pt).length = 0 from rfl), hen]
        have HLB := hide hlb
        clear hr ih hlb hen
        go_enter Try.func68, Try.ntmps68
        go_wp2_with (go_at_call 48; refine (leaf_yes op pl _ HLB.out).mono ?_; rintro e w5 hm5; obtain ⟨A5, c5, rfl, hg5, hm6⟩ := MadeT.back (w := w) (cs := #[.slice none 0 0]) (by repeat (first | exact Below.refl _ _ | refine Below.drew ?_ | refine below_drewN ?_ _ | refine Below.alloc ?_ (by simp) _)) (by repeat (first | exact heap_alloc_new _ _ | refine blk_alloc ?_ _)) hm5; have r0 := blk_cell hg5 0; have rf := blk_frozen hg5 0; have rl := blk_lt hg5; simp at r0; have HM6 := hide hm6; clear hm5 hm6 hg5)
        exact bodyPost_ret (v := .agg #[.slice A5 1 c5]) (by simp [results, Try.results68, go_sem, r0]) rfl HM6.out
      · rw [if_neg (by omega)]
        have hrts : RTs ks := fun p hp => (h4 p hp).1
        have HRTS := hide hrts
        have HOP := hide h1
        have HIH := hide ih
        have hks : ks.length ≤ 300 := by have := szL_ge ks; have := HII.out; omega
        have n0 : ((ks.length : Int) == 0) = false := by rw [beq_eq_false_iff_ne]; omega
        have n1 : (ks.length == 0) = false := by rw [beq_eq_false_iff_ne]; omega
        obtain ⟨m, hm⟩ : ∃ m, m = ks.length := ⟨_, rfl⟩
        rw [← hm] at x2 HK hks n0 n1
        obtain ⟨rows, hrows⟩ : ∃ rows, rows = (anewL off leaf q ks).map encO := ⟨_, rfl⟩
        have HR := hide hrows
        have HM := hide hm
        clear hr ih hrts h1 h2 h4 hm hrows
        go_enter Try.func68, Try.ntmps68
        go_wp2
        go_loopw [8, 35] (fun lv cnt wr => ∃ (j : Nat) (LA : Option Addr) (lc : Nat), j ≤ m ∧ cnt = .int .i64 j ∧ lv = .slice LA j lc ∧ Hid (OwnP (El.row El.nd) wr 59 (fun b => w.heap.size + 1 < b) (.slice LA j lc) (rows.take j)) ∧ Hid (Below w.heap.size w wr) ∧ Hid (wr.heap[w.heap.size]? = some (.cells #[.slice none 0 0] 59 (0, 0))) ∧ Hid (wr.heap[w.heap.size + 1]? = some (.cells #[.int .u8 op, .int .i64 0, .slice K m kc] 76 (0, 0)))) (fun _ i _ => m - (intOf i).toNat)
        case atStart =>
          refine ⟨0, none, 0, Nat.zero_le _, rfl, rfl, OwnP.nil _ _ _ _, (by repeat (first | exact Below.refl _ _ | refine Below.drew ?_ | refine below_drewN ?_ _ | refine Below.alloc ?_ (by simp) _)), ?_, ?_⟩
          · exact blk_alloc (heap_alloc_new _ _) _
          · exact blk_new (by simp)
        case round =>
          obtain ⟨j, LA, lc, hj, rfl, rfl, O, OB, O1, O2⟩ := hrel
          have r1 := blk_lt O1.out
          have r2 := blk_lt O2.out
          have hrl : (rows.take j).length = j := by rw [List.length_take, HR.out, List.length_map, anewL_length, ← HM.out]; omega
          have HRL := hide hrl
          clear hrl
          by_cases hlt2 : j < m
          · obtain ⟨pj, hpj⟩ : ∃ pj, ks[j]? = some pj := ⟨_, List.getElem?_eq_getElem (by rw [← HM.out]; exact hlt2)⟩
            have hk0 := roots_get ks off j pj hpj
            obtain ⟨hjr, hk1⟩ := List.getElem?_eq_some_iff.1 hk0
            have hwr := HW.out.trans (OB.out.mono HW.out.size)
            obtain ⟨kd, hkd, -, -, k0⟩ := (HK.out.below hwr).int j hjr
            rw [hk1] at k0
            subst hkd
            have hsz := szL_take_le ks j pj hpj
            have htk := HT.out.below OB.out
            have hc := HIH.out pj (by have := HSZ.out; omega) (off + szL (ks.take j)) wr (HRTS.out pj (List.mem_of_getElem? hpj)) (HereL.get ks off j pj HL.out hpj) hwr htk
            have hrow : rows[j]? = some (encO (anewT (off + szL (ks.take j)) leaf q pj)) := by
              rw [HR.out, List.getElem?_map, anewL_get ks off j leaf q pj hpj]
              rfl
            obtain ⟨row, hrow'⟩ : ∃ row, row = encO (anewT (off + szL (ks.take j)) leaf q pj) := ⟨_, rfl⟩
            rw [← hrow'] at hrow hc
            have a0 := blk_cell htk.ha 0
            have alt := blk_lt htk.ha
            simp at a0
            obtain ⟨kk, hkk⟩ : ∃ kk : Int, kk = ((off + szL (ks.take j) + sz pj : Nat) - 1 : Int) := ⟨_, rfl⟩
            rw [← hkk] at k0 hc
            have HC := hide hc
            have HROW := hide hrow
            clear hkk hc hsz hk1 hk0 hjr hpj hrow hrow' htk hwr
            go_wp2_with (first | (go_at_call 68; refine HC.out.mono ?_; rintro e w5 ⟨A5, c5, rfl, hown5, hb5⟩; have HO5 := hide hown5; have HB5 := hide hb5; clear hown5 hb5) | (at_builtin; refine wpList_append_tree _ rfl (.tmp 39) (.tmp 43) rfl (fun b => w.heap.size + 1 < b) LA j lc (rows.take j) rfl HRL.out ((O.out.below HB5.out).below ((Below.refl _ _).alloc (Nat.le_refl _) _)) w5.heap.size A5 row.length c5 row rfl rfl (heap_alloc_new _ _) ((HO5.out.rds.to_nd.mono (fun b hb _ => ⟨by omega, fun h => by have := O.out.lt b h; omega⟩)).below ((Below.refl _ _).alloc (Nat.le_refl _) _)) (fun b hb => by have h1 := HB5.out.size; rw [World.size_alloc] at hb; omega) (by omega) ?_; intro LA' lc' w8 hown8 honly8 hfp8; have HO8 := hide hown8; have HY8 := hide honly8; clear hown8 honly8 hfp8))
            go_roundw
            case rel =>
              have hfar : ∀ g, g ≤ w.heap.size + 1 → ¬ Fp (.slice LA j lc) g := fun g hg h => by have := O.out.fp g h; omega
              have hB : Below wr.heap.size wr (w5.alloc (.cells #[.slice A5 row.length c5] 59)) := HB5.out.alloc HB5.out.size _
              refine ⟨j + 1, LA', lc', by omega, by go_num, rfl, ?_, ?_, box_only (box_same O1.out hB) HY8.out (hfar _ (by omega)), box_only (box_same O2.out hB) HY8.out (hfar _ (by omega))⟩
              · have e : rows.take (j + 1) = rows.take j ++ [row] := by
                  obtain ⟨hj, hje⟩ := List.getElem?_eq_some_iff.1 HROW.out
                  rw [List.take_succ_eq_append_getElem hj, hje]
                rw [e]
                exact HO8.out
              · have h1 := (OB.out.trans (hB.mono OB.out.size))
                exact h1.trans (HY8.out.below (fun b hb => by have := O.out.fp b hb; omega) h1.size)
            case measure => simp [intOf]; omega
          · obtain rfl : j = m := by omega
            have hall : rows.take j = rows := List.take_of_length_le (by rw [HR.out, List.length_map, anewL_length, ← HM.out]; exact Nat.le_refl _)
            have hlen : rows.length = j := by rw [HR.out, List.length_map, anewL_length, ← HM.out]
            have hown := O.out
            rw [hall] at hown
            have hread := hown.rds
            rw [← hlen] at hread
            have htn := anewL_TN ks off leaf q HRTS.out hq
            have hfit : ∀ r ∈ rows, FitsK r := by
              intro r hr
              rw [HR.out] at hr
              obtain ⟨p, hp, rfl⟩ := List.mem_map.1 hr
              refine encO_fits (htn p hp) ?_
              have h1 := lenO_mem hp
              have h2 := anewL_len ks off leaf q HRTS.out hq
              have h3 := HII.out
              split at h2 <;> omega
            have hput := sput_any op rows wr hread (by omega) hfit
            rw [HR.out, putR_law HOP.out htn, ← HR.out, hlen] at hput
            have HPUT := hide hput
            have n0 := blk_cell O2.out 0
            simp at n0
            clear hall hlen hown hread htn hfit hput
            go_wp2_with (go_at_call 69; refine HPUT.out.mono ?_; intro e w5 hm5; obtain ⟨A5, c5, rfl, hg5, hm6⟩ := MadeT.back (w := w) OB.out O1.out hm5; have r0 := blk_cell hg5 0; have rf := blk_frozen hg5 0; have rl := blk_lt hg5; simp at r0; have HM6 := hide hm6; clear hm5 hm6 hg5)
            exact bodyPost_ret (v := .agg #[.slice A5 (encO (putT op (anewL off leaf q ks))).length c5]) (by simp [results, Try.results68, go_sem, r0]) rfl HM6.out
end Go.Proofs.Ytbobjecjopmnfaa
