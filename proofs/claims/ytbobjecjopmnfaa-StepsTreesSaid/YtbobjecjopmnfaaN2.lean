/- The walks of Put and Take (the reference's 22). -/
import Derived.Test.YtbobjecjopmnfaaN1
import Derived.Deep.DrawnRows
namespace Go.Proofs.Ytbobjecjopmnfaa
open Go.RowKit
open Pt (szL sz encL enc roots encL_length roots_length enc_length shift RT)
attribute [local go_sem ↓] Go.wp_at_zero Go.wp_at_succ
theorem inf65 : (Try.prog.info? 65).map (fun i => (i.zero, i.size, i.bytes)) = some (some (.agg #[(.int .u8 0), (.int .i64 0), (.slice none 0 0)]), 3, 40) := by kernel_rfl
theorem all2_one {α : Type} {d : El α} {w : World} {ok : Nat → Prop} : ∀ {xs : List α} {css : List (List Value)}, All2 (d.P w ok) xs css → ∀ u ∈ css.flatten, u.oneCell' = true
  | _, _, .nil, u, h => by simp at h
  | _, _, .cons a b, u, h => by
    rw [List.flatten_cons] at h
    rcases List.mem_append.1 h with h | h
    · exact d.one a u h
    · exact all2_one b u h
/-- A tree comes back; it lies in blocks that are ok, and in new ones. -/
def GetP (p : Pt) (ok : Nat → Prop) (w : World) (e : Ending) (w' : World) : Prop :=
  ∃ A c, e = .returned (.agg #[.int .u8 p.op, .int .i64 p.pl, .slice A p.kids.length c]) ∧ Rds El.pt w' (fun b => ok b ∨ w.heap.size ≤ b) (.slice A p.kids.length c) p.kids ∧ Below w.heap.size w w'
theorem pieces_take {op : Int} {ps : List Pt} {j : Nat} {p : Pt} (h : ps[j]? = some p) : (p.op = op → pieces op (ps.take (j + 1)) = pieces op (ps.take j) ++ p.kids) ∧ (p.op ≠ op → p.op ≠ 0 → pieces op (ps.take (j + 1)) = pieces op (ps.take j) ++ [p]) ∧ (p.op ≠ op → p.op = 0 → pieces op (ps.take (j + 1)) = pieces op (ps.take j)) := by
  obtain ⟨hj, rfl⟩ := List.getElem?_eq_some_iff.1 h
  rw [List.take_succ_eq_append_getElem hj]
  have e : pieces op (ps.take j ++ [ps[j]]) = pieces op (ps.take j) ++ (if ps[j].op = op then ps[j].kids else if ps[j].op ≠ 0 then [ps[j]] else []) := by
    unfold pieces
    rw [List.flatMap_append]
    simp only [List.flatMap_cons, List.flatMap_nil, List.append_nil]
  rw [e]
  refine ⟨fun h1 => by rw [if_pos h1], fun h1 h2 => by rw [if_neg h1, if_pos h2], fun h1 h2 => by rw [if_neg h1, if_neg (by simp [h2]), List.append_nil]⟩
theorem pieces_len (op : Int) : ∀ (ps : List Pt), (∀ p ∈ ps, p.kids.length ≤ 500) → (pieces op ps).length ≤ ps.length * 500
  | [], _ => by simp [pieces]
  | p :: ps, h => by
    have ih := pieces_len op ps fun q hq => h q (.tail _ hq)
    have h1 := h p (.head _)
    have e : pieces op (p :: ps) = (if p.op = op then p.kids else if p.op ≠ 0 then [p] else []) ++ pieces op ps := by simp [pieces]
    have h2 : (if p.op = op then p.kids else if p.op ≠ 0 then [p] else []).length ≤ 500 := by
      split
      · exact h1
      · split
        · exact Nat.succ_le_of_lt (by decide)
        · exact Nat.zero_le _
    rw [e, List.length_append, List.length_cons, Nat.succ_mul, Nat.add_comm]
    exact Nat.add_le_add ih h2
/-- What Put's loop holds. -/
structure Pu (w wr : World) (ok : Nat → Prop) (ps : List Pt) (B : Option Addr) (q cb : Nat) (css : List (List Value)) : Prop where
  b4 : wr.heap[w.heap.size]? = some (.cells #[.int .u8 0, .int .i64 0, .slice none 0 0] 65 (0, 0))
  all : All2 (El.pt.P w fun b => ok b ∧ b < w.heap.size) ps css
  row : Row wr 65 3 (.slice B q cb) q css.flatten
  fp : ∀ b, Fp (.slice B q cb) b → w.heap.size < b
  len : q = ps.length
  hb : Below w.heap.size w wr
theorem Pu.grow {w wr W W' : World} {ok : Nat → Prop} {ps qs : List Pt} {B B' : Option Addr} {q cb q' cb' : Nat} {css dss : List (List Value)} (h : Pu w wr ok ps B q cb css) (hB : Below wr.heap.size wr W) (ho : Only (Fp (.slice B q cb)) W W')
    (hd : All2 (El.pt.P w fun b => ok b ∧ b < w.heap.size) qs dss) (hrow : Row W' 65 3 (.slice B' q' cb') q' (css.flatten ++ dss.flatten)) (hq : q' = q + qs.length) (hf : ∀ b, Fp (.slice B' q' cb') b → Fp (.slice B q cb) b ∨ W.heap.size ≤ b) : Pu w W' ok (ps ++ qs) B' q' cb' (css ++ dss) := by
  have hlt := blk_lt h.b4
  have hW := hB.size
  have e1 := box_only (box_same h.b4 hB) ho (fun hx => Nat.lt_irrefl _ (h.fp _ hx))
  have e2 := forall2_app hd h.all
  rw [← flatten_app] at hrow
  have e5 : q' = (ps ++ qs).length := by rw [List.length_append, hq, h.len]
  have e6 : Below w.heap.size w W' := (h.hb.trans (hB.mono h.hb.size)).trans (ho.below (fun b hb => Nat.le_of_lt (h.fp b hb)) (Nat.le_trans h.hb.size hW))
  have e4 : ∀ b, Fp (.slice B' q' cb') b → w.heap.size < b := fun b hb => by
    rcases hf b hb with hx | hx
    · exact h.fp b hx
    · exact Nat.lt_of_lt_of_le (Nat.lt_of_lt_of_le hlt hW) hx
  exact ⟨e1, e2, hrow, e4, e5, e6⟩
theorem Pu.first {w wr : World} {ok : Nat → Prop} {p : Pt} {rest : List Pt} {B : Option Addr} {q cb : Nat} {css : List (List Value)} (h : Pu w wr ok (p :: rest) B q cb css) :
    ∃ kad K kc, B = some kad ∧ wr.cell? kad = some (.int .u8 p.op) ∧ wr.cell? ⟨kad.block, kad.off + 1, none⟩ = some (.int .i64 p.pl) ∧ wr.cell? ⟨kad.block, kad.off + 2, none⟩ = some (.slice K p.kids.length kc) ∧ Rds El.pt w (fun b => ok b ∧ b < w.heap.size) (.slice K p.kids.length kc) p.kids := by
  obtain ⟨b4, all, row, fp, len, hb⟩ := h
  have hq : 0 < q := by rw [len]; simp
  cases all with
  | cons a b =>
    obtain ⟨K, kc, he, hk⟩ := El.pt_iff.1 a
    subst he
    obtain ⟨_, A', c', he, _, hrd⟩ := row.rd (ok := fun _ => True) (fun _ _ => trivial)
    injection he with e1 _ e3
    subst e1; subst e3
    obtain ⟨ad, had, _, hc⟩ := hrd hq
    have h0 := hc 0 (.int .u8 p.op) rfl
    have h1 := hc 1 (.int .i64 p.pl) rfl
    have h2 := hc 2 (.slice K p.kids.length kc) rfl
    rw [add_zero_] at h0
    rw [add_off 1 (by decide)] at h1
    rw [add_off 2 (by decide)] at h2
    exact ⟨ad, K, kc, had, h0, h1, h2, hk⟩
theorem Pu.read {w wr W : World} {ok : Nat → Prop} {ps : List Pt} {B : Option Addr} {q cb : Nat} {css : List (List Value)} (h : Pu w wr ok ps B q cb css) (hrow : Row W 65 3 (.slice B q cb) q css.flatten) (hb : Below w.heap.size w W) : Rds El.pt W (fun b => ok b ∨ w.heap.size ≤ b) (.slice B q cb) ps := by
  refine ⟨css, ?_, forall2_imp (fun _ _ h => El.pt.mono (fun b hb _ => .inl hb.1) (El.below h hb)) h.all⟩
  rw [← h.len]
  exact hrow.rd (fun b hb => .inr (Nat.le_of_lt (h.fp b hb)))
set_option maxHeartbeats 8000000 in
theorem rput_any {ok : Nat → Prop} {A : Option Addr} {n c : Nat} (op : Int) (ps : List Pt) (hn : n = ps.length) (hl : n ≤ 500) (hk5 : ∀ p ∈ ps, p.kids.length ≤ 500) (hop0 : op ≠ 0) (w : World) (h : Rds El.pt w ok (.slice A n c) ps) :
    Calls Try.prog 45 #[.int .u8 op, .slice A n c] w (GetP (putT op ps) ok w) := by
  have H := hide (h.mono (ok' := fun b => ok b ∧ b < w.heap.size) (fun b h1 h2 => ⟨h1, h2⟩))
  have HN := hide hn
  have HK := hide hk5
  have H0 := hide hop0
  have i0 : Pu w (w.alloc (.cells #[.int .u8 0, .int .i64 0, .slice none 0 0] 65)) ok (pieces op (ps.take 0)) none 0 0 [] := ⟨heap_alloc_new _ _, by simpa [pieces] using All2.nil, Row.nil _ _ _, fun b hb => (Fp_none hb).elim, by simp [pieces], (Below.refl _ _).alloc (Nat.le_refl _) _⟩
  have I0 := hide i0
  clear h hn hk5 i0 hop0
  go_enter Try.func45, Try.ntmps45
  go_wp2
  go_loopw [5, 6] (fun kv iv wr => ∃ (j : Nat) (B : Option Addr) (q cb : Nat) (css : List (List Value)), j ≤ n ∧ iv = .int .i64 j ∧ kv = .slice B q cb ∧ Hid (Pu w wr ok (pieces op (ps.take j)) B q cb css)) (fun _ i _ => n - (intOf i).toNat)
  case atStart => exact ⟨0, none, 0, 0, [], Nat.zero_le _, rfl, rfl, I0.out⟩
  case round =>
    clear I0
    obtain ⟨j, B, q, cb, css, hj, rfl, rfl, I⟩ := hrel
    have hq : q ≤ 250000 := by
      rw [I.out.len]
      have h1 := pieces_len op (ps.take j) (fun p hp => HK.out p (List.mem_of_mem_take hp))
      rw [List.length_take] at h1
      have h2 : min j ps.length ≤ 500 := by omega
      have h3 : min j ps.length * 500 ≤ 500 * 500 := Nat.mul_le_mul_right _ h2
      omega
    by_cases hlt2 : j < n
    · obtain ⟨p, hpj⟩ : ∃ p, ps[j]? = some p := ⟨_, List.getElem?_eq_getElem (by rw [← HN.out]; exact hlt2)⟩
      obtain ⟨ad, K, kc, hA, x0, x1, x2, hk⟩ := H.out.pt_at I.out.hb hpj
      have hkl := HK.out p (List.mem_of_getElem? hpj)
      have hnx := pieces_take (op := op) hpj
      have hpcells : El.pt.P w (fun b => ok b ∧ b < w.heap.size) p [.int .u8 p.op, .int .i64 p.pl, .slice K p.kids.length kc] := El.pt_iff.2 ⟨K, kc, rfl, hk⟩
      obtain ⟨kcss, hkr, hka⟩ := hk
      have HNX := hide hnx
      have HPC := hide hpcells
      have HKR := hide hkr
      have HKA := hide hka
      obtain ⟨po, pp, pk⟩ := p
      simp only [Pt.op, Pt.pl, Pt.kids] at x0 x1 x2 hkl HNX HPC HKR HKA
      subst hA
      clear hpj hnx hpcells hkr hka
      by_cases ho : po = op
      · have e1 : (po == op) = true := by rw [beq_iff_eq]; exact ho
        have HO := hide ho
        clear ho
        go_wp2_with (at_builtin; refine wpList_append_row _ rfl (.tmp 20) (.tmp 25) 63 65 rfl _ 3 40 Try.underlying63 inf65 rfl (by decide) (by decide) (.slice B q cb) q css.flatten rfl I.out.row (fun b => ok b ∧ b < w.heap.size) (.slice K pk.length kc) pk.length kcss.flatten rfl (HKR.out.below I.out.hb) (all2_one HKA.out) (by omega) ?_; intro B' cb' w3 hrow3 honly3 hfp3; have HR3 := hide hrow3; have HO3 := hide honly3; have HF3 := hide hfp3; clear hrow3 honly3 hfp3)
        go_roundw
        case rel =>
          refine ⟨j + 1, B', q + pk.length, cb', css ++ kcss, by omega, by go_num, rfl, ?_⟩
          rw [HNX.out.1 HO.out]
          exact I.out.grow (Below.refl _ _) HO3.out HKA.out HR3.out rfl HF3.out
        case measure => simp [intOf]; omega
      · have e1 : (po == op) = false := by rw [beq_eq_false_iff_ne]; exact ho
        have HO := hide ho
        clear ho
        by_cases hz : po = 0
        · have e2 : (po != 0) = false := by rw [hz]; rfl
          have HZ := hide hz
          clear hz
          go_wp2
          go_roundw
          case rel =>
            refine ⟨j + 1, B, q, cb, css, by omega, by go_num, rfl, ?_⟩
            rw [HNX.out.2.2 HO.out HZ.out]
            exact I.out
          case measure => simp [intOf]; omega
        · have e2 : (po != 0) = true := by simpa using hz
          have HZ := hide hz
          clear hz
          go_wp2_with (at_builtin; refine wpList_append_row _ rfl (.tmp 33) (.tmp 38) 63 65 rfl _ 3 40 Try.underlying63 inf65 rfl (by decide) (by decide) (.slice B q cb) q css.flatten rfl (I.out.row.below ((Below.refl _ _).alloc (Nat.le_refl _) _)) (fun _ => True) _ 1 [.int .u8 po, .int .i64 pp, .slice K pk.length kc] rfl (rd_block (cs := [.int .u8 po, .int .i64 pp, .slice K pk.length kc]) (heap_alloc_new _ _) rfl) (El.pt.one HPC.out) (by omega) ?_; intro B' cb' w3 hrow3 honly3 hfp3; have HR3 := hide hrow3; have HO3 := hide honly3; have HF3 := hide hfp3; clear hrow3 honly3 hfp3)
          go_roundw
          case rel =>
            refine ⟨j + 1, B', q + 1, cb', css ++ [[.int .u8 po, .int .i64 pp, .slice K pk.length kc]], by omega, by go_num, rfl, ?_⟩
            rw [HNX.out.2.1 HO.out HZ.out]
            exact I.out.grow (qs := [.mk po pp pk]) ((Below.refl _ _).alloc (Nat.le_refl _) _) HO3.out (.cons HPC.out .nil) (by simpa using HR3.out) rfl HF3.out
          case measure => simp [intOf]; omega
    · obtain rfl : j = n := by omega
      have hall : ps.take j = ps := List.take_of_length_le (by rw [← HN.out]; exact Nat.le_refl _)
      rw [hall] at I
      clear hall
      have r0 := blk_cell I.out.b4 0
      have r1 := blk_cell I.out.b4 1
      have r2 := blk_cell I.out.b4 2
      have rf0 := blk_frozen I.out.b4 0
      have rf1 := blk_frozen I.out.b4 1
      have rf2 := blk_frozen I.out.b4 2
      have rl := blk_lt I.out.b4
      simp at r0 r1 r2
      have HS := hide I.out.hb
      have hpt : putT op ps = putK op (pieces op ps) := rfl
      obtain ⟨pcs, hpcs⟩ : ∃ pcs, pcs = pieces op ps := ⟨_, rfl⟩
      rw [← hpcs] at I hpt
      have HL := hide I.out.len
      have HPT := hide hpt
      have hbs : ∀ a b c, Below w.heap.size w (((wr.setCell ⟨w.heap.size, 0, none⟩ a).setCell ⟨w.heap.size, 1, none⟩ b).setCell ⟨w.heap.size, 2, none⟩ c) := fun a b c => ((HS.out.setCell (p := ⟨w.heap.size, 0, none⟩) (Nat.le_refl _) _).setCell (p := ⟨w.heap.size, 1, none⟩) (Nat.le_refl _) _).setCell (p := ⟨w.heap.size, 2, none⟩) (Nat.le_refl _) _
      have HBS := hide hbs
      clear hpcs hpt hbs
      match pcs, HL.out, HPT.out, I with
      | [], hlen, hpt, I =>
        have hq0 : q = 0 := hlen
        subst hq0
        have HPP := hide hpt
        clear hlen HPT HL hpt
        go_wp2
        refine bodyPost_ret (v := .agg #[.int .u8 0, .int .i64 0, .slice none 0 0]) (by simp [results, Try.results45, go_sem, r0, r1, r2]) rfl ?_
        rw [HPP.out]
        exact ⟨none, 0, rfl, Rds.nil, HBS.out _ _ _⟩
      | [p], hlen, hpt, I =>
        have hq1 : q = 1 := hlen
        subst hq1
        obtain ⟨kad, K, kc, hKA, k0, k1, k2, hk⟩ := I.out.first
        have HKK := hide hk
        have HPP := hide hpt
        subst hKA
        clear hlen hk HPT HL hpt
        go_wp2
        refine bodyPost_ret (v := .agg #[.int .u8 p.op, .int .i64 p.pl, .slice K p.kids.length kc]) (by simp [results, Try.results45, go_sem, r0, r1, r2]) rfl ?_
        rw [HPP.out]
        exact ⟨K, kc, rfl, (HKK.out.mono (fun b h1 _ => .inl h1.1)).below (HBS.out _ _ _), HBS.out _ _ _⟩
      | p :: p' :: rest, hlen, hpt, I =>
        have hq2 : 2 ≤ q := by rw [hlen]; simp
        have n0 : ((q : Int) == 0) = false := by rw [beq_eq_false_iff_ne]; omega
        have n1 : ((q : Int) == 1) = false := by rw [beq_eq_false_iff_ne]; omega
        have HPP := hide hpt
        have HLL := hide hlen
        clear hlen hpt HPT HL
        go_wp2
        refine bodyPost_ret (v := .agg #[.int .u8 op, .int .i64 0, .slice B q cb]) (by simp [results, Try.results45, go_sem, r0, r1, r2]) rfl ?_
        rw [HPP.out]
        have hbx : ¬ Fp (.slice B q cb) w.heap.size := fun hx => Nat.lt_irrefl _ (I.out.fp _ hx)
        have hrd := I.out.read (((I.out.row.setCell (p := ⟨w.heap.size, 0, none⟩) hbx (.int .u8 op)).setCell (p := ⟨w.heap.size, 1, none⟩) hbx (.int .i64 0)).setCell (p := ⟨w.heap.size, 2, none⟩) hbx (.slice B q cb)) (HBS.out _ _ _)
        obtain rfl : q = (p :: p' :: rest).length := HLL.out
        exact ⟨B, cb, rfl, hrd, HBS.out _ _ _⟩
end Go.Proofs.Ytbobjecjopmnfaa
