/- The walk of Ready (its closure, that calls itself, and she). -/
import Derived.Test.YtbobjecjopmnfaaK5
namespace Go.Proofs.Ytbobjecjopmnfaa
open Go.RowKit
open Pt (szL sz encL enc roots encL_length roots_length RT)
theorem readyL_append : ∀ (a b : List Pt) (off : Nat), readyL true off (a ++ b) = readyL true off a ++ readyL true (off + szL a) b
  | [], b, off => by simp [readyL, szL]
  | p :: a, b, off => by
    rw [List.cons_append, readyL, readyL, if_pos rfl, if_pos rfl, readyL_append a b, szL, List.append_assoc, Nat.add_assoc]
theorem readyL_first (p : Pt) (ps : List Pt) (off : Nat) : readyL false off (p :: ps) = readyT off p := by simp [readyL]
theorem roots_get : ∀ (ks : List Pt) (off j : Nat) (p : Pt), ks[j]? = some p → (roots off ks)[j]? = some ((off + szL (ks.take j) + sz p : Nat) - 1 : Int)
  | [], _, _, _, h => by simp at h
  | q :: ks, off, 0, p, h => by
    simp at h
    subst h
    simp [roots, szL]
  | q :: ks, off, j + 1, p, h => by
    rw [roots, List.getElem?_cons_succ, roots_get ks (off + sz q) j p (by simpa using h), List.take_succ_cons, szL, Nat.add_assoc off]
theorem HereL.get {l : List Nd} : ∀ (ks : List Pt) (off j : Nat) (p : Pt), HereL l off ks → ks[j]? = some p → Here l (off + szL (ks.take j)) p
  | [], _, _, _, _, h => by simp at h
  | q :: ks, off, 0, p, hh, h => by
    simp at h
    subst h
    simpa [szL] using hh.cons.1
  | q :: ks, off, j + 1, p, hh, h => by
    have := HereL.get ks (off + sz q) j p hh.cons.2 (by simpa using h)
    rwa [List.take_succ_cons, szL, ← Nat.add_assoc]
theorem szL_mem : ∀ {ks : List Pt} {p : Pt}, p ∈ ks → sz p ≤ szL ks
  | q :: ks, p, h => by
    rw [szL]
    rcases List.mem_cons.1 h with rfl | h
    · omega
    · have := szL_mem h
      omega
mutual
theorem readyT_len : ∀ (p : Pt) (off : Nat), (readyT off p).length ≤ sz p
  | .mk op pl ks, off => by
    rw [readyT, sz]
    split
    · simp
    · have := readyL_len (decide (op = 2)) ks off
      omega
theorem readyL_len (all : Bool) : ∀ (ps : List Pt) (off : Nat), (readyL all off ps).length ≤ szL ps
  | [], _ => by simp [readyL]
  | p :: ps, off => by
    rw [readyL, List.length_append, szL]
    have := readyT_len p off
    split
    · have := readyL_len all ps (off + sz p)
      omega
    · simp
      omega
end
theorem szL_take_le (ks : List Pt) (j : Nat) (p : Pt) (h : ks[j]? = some p) : szL (ks.take j) + sz p ≤ szL ks := by
  obtain ⟨hj, rfl⟩ := List.getElem?_eq_some_iff.1 h
  have e : ks = ks.take j ++ ks[j] :: ks.drop (j + 1) := by rw [← List.drop_eq_getElem_cons hj, List.take_append_drop]
  have := congrArg szL e
  rw [Pt.szL_append, szL] at this
  omega
theorem readyL_next (ks : List Pt) (off j : Nat) (p : Pt) (h : ks[j]? = some p) : readyL true off (ks.take (j + 1)) = readyL true off (ks.take j) ++ readyT (off + szL (ks.take j)) p := by
  obtain ⟨hj, rfl⟩ := List.getElem?_eq_some_iff.1 h
  rw [List.take_succ_eq_append_getElem hj, readyL_append, readyL, if_pos rfl, readyL, List.append_nil]
/-- Ready's three boxes, and what has been told. -/
structure Rea (w0 w : World) (A : Option Addr) (c : Nat) (l : List Nd) (bt bw bo : Nat) (B : Option Addr) (q cb : Nat) (o : List Int) : Prop where
  ht : w.heap[bt]? = some (.cells #[.slice A l.length c] 59 (0, 0))
  hw : w.heap[bw]? = some (.cells #[.func (.func 73) #[] #[.pointer (some ⟨bt, 0, none⟩), .pointer (some ⟨bw, 0, none⟩), .pointer (some ⟨bo, 0, none⟩)]] 116 (0, 0))
  ho : w.heap[bo]? = some (.cells #[.slice B q cb] 36 (0, 0))
  row : Row w 3 1 (.slice B q cb) q (ints o)
  len : q = o.length
  fp : ∀ b, Fp (.slice B q cb) b → w0.heap.size ≤ b
  new : w0.heap.size ≤ bo
  hb : Below w0.heap.size w0 w
/-- Behind a call: more has been told. -/
def Told (w0 w : World) (A : Option Addr) (c : Nat) (l : List Nd) (bt bw bo : Nat) (B : Option Addr) (q cb : Nat) (o : List Int) (w' : World) : Prop :=
  ∃ B' q' cb', Rea w0 w' A c l bt bw bo B' q' cb' o ∧ Only (fun b => b = bo ∨ Fp (.slice B q cb) b) w w' ∧ ∀ b, Fp (.slice B' q' cb') b → Fp (.slice B q cb) b ∨ w.heap.size ≤ b
theorem Rea.below {w0 w w' : World} {A B : Option Addr} {c bt bw bo q cb : Nat} {l : List Nd} {o : List Int} (h : Rea w0 w A c l bt bw bo B q cb o) (hb : Below w.heap.size w w') : Rea w0 w' A c l bt bw bo B q cb o :=
  ⟨box_same h.ht hb, box_same h.hw hb, box_same h.ho hb, h.row.below hb, h.len, h.fp, h.new, h.hb.trans (hb.mono h.hb.size)⟩
theorem Told.before {w0 w W w' : World} {A B : Option Addr} {c bt bw bo q cb : Nat} {l : List Nd} {o : List Int} (h : Told w0 W A c l bt bw bo B q cb o w') (hB : Below w.heap.size w W) : Told w0 w A c l bt bw bo B q cb o w' := by
  obtain ⟨B', q', cb', h1, h2, h3⟩ := h
  exact ⟨B', q', cb', h1, (Only.of_below hB _).trans h2 (fun b hb => .inl hb), fun b hb => (h3 b hb).imp id (Nat.le_trans hB.size)⟩
theorem Told.then {w0 w W w' : World} {A B B' : Option Addr} {c bt bw bo q cb q' cb' : Nat} {l : List Nd} {o : List Int} (ho : Only (fun b => b = bo ∨ Fp (.slice B q cb) b) w W) (hf : ∀ b, Fp (.slice B' q' cb') b → Fp (.slice B q cb) b ∨ w.heap.size ≤ b)
    (h : Told w0 W A c l bt bw bo B' q' cb' o w') : Told w0 w A c l bt bw bo B q cb o w' := by
  obtain ⟨B2, q2, cb2, h1, h2, h3⟩ := h
  refine ⟨B2, q2, cb2, h1, ho.trans h2 (fun b hb => ?_), fun b hb => ?_⟩
  · rcases hb with h | h
    · exact .inl (.inl h)
    · exact (hf b h).imp .inr id
  · rcases h3 b hb with h | h
    · exact hf b h
    · exact .inr (Nat.le_trans ho.size h)
section
variable {w0 w W W' : World} {A B B' : Option Addr} {c bt bw bo q cb q' cb' : Nat} {l : List Nd} {o o' : List Int}
theorem Rea.far (h : Rea w0 w A c l bt bw bo B q cb o) (hB : Below w.heap.size w W) (ho : Only (Fp (.slice B q cb)) W W') : W'.heap[bo]? = some (.cells #[.slice B q cb] 36 (0, 0)) :=
  box_only (box_same h.ho hB) ho ((h.row.below hB).ne_ (box_same h.ho hB) (by decide))
theorem Rea.push (h : Rea w0 w A c l bt bw bo B q cb o) (hB : Below w.heap.size w W) (ho : Only (Fp (.slice B q cb)) W W') (hrow : Row W' 3 1 (.slice B' q' cb') q' (ints o')) (hq : q' = o'.length)
    (hf : ∀ b, Fp (.slice B' q' cb') b → Fp (.slice B q cb) b ∨ W.heap.size ≤ b) : Told w0 w A c l bt bw bo B q cb o' (W'.setCell ⟨bo, 0, none⟩ (.slice B' q' cb')) := by
  have hr := h.row.below hB
  have t1 := box_only (box_same h.ht hB) ho (hr.ne_ (box_same h.ht hB) (by decide))
  have t2 := box_only (box_same h.hw hB) ho (hr.ne_ (box_same h.hw hB) (by decide))
  have t3 := h.far hB ho
  have n1 : bt ≠ bo := fun e => by rw [e] at t1; rw [t3] at t1; injection t1 with t1; injection t1 with _ t1; exact absurd t1 (by decide)
  have n2 : bw ≠ bo := fun e => by rw [e] at t2; rw [t3] at t2; injection t2 with t2; injection t2 with _ t2; exact absurd t2 (by decide)
  have hB0 := h.hb.trans (hB.mono h.hb.size)
  have hfp : ∀ b, Fp (.slice B' q' cb') b → w0.heap.size ≤ b := fun b hb => (hf b hb).elim (h.fp b) (Nat.le_trans hB0.size)
  refine ⟨B', q', cb', ⟨blk_far (p := ⟨bo, 0, none⟩) t1 n1 _, blk_far (p := ⟨bo, 0, none⟩) t2 n2 _, blk_set t3 0 _, hrow.setCell (p := ⟨bo, 0, none⟩) (hrow.ne_ t3 (by decide)) _, hq, hfp, h.new, (hB0.trans (ho.below h.fp hB0.size)).setCell h.new _⟩, ?_, ?_⟩
  · have o1 := Only.of_below hB (fun b => b = bo ∨ Fp (.slice B q cb) b)
    have o2 : Only (fun b => b = bo ∨ Fp (.slice B q cb) b) w W' := o1.trans ho (fun b hb => .inl (.inr hb))
    exact Only.setCell (ok := fun b => b = bo ∨ Fp (.slice B q cb) b) (p := ⟨bo, 0, none⟩) o2 (.inl (.inl rfl)) _
  · exact fun b hb => (hf b hb).imp id (Nat.le_trans hB.size)
end
set_option maxHeartbeats 4000000 in
theorem ready1_any {ok : Nat → Prop} {A : Option Addr} {c bt bw bo : Nat} {l : List Nd} {w0 : World} (H0 : Rds El.nd w0 ok (.slice A l.length c) l) (hl : l.length ≤ 1000) : ∀ (N : Nat) (p : Pt), sz p ≤ N → ∀ (off : Nat) (w : World) (B : Option Addr) (q cb : Nat) (o : List Int), RT p → Here l off p → Rea w0 w A c l bt bw bo B q cb o → o.length + sz p ≤ 2000 →
    Calls Try.prog 73 #[.int .i64 ((off + sz p : Nat) - 1 : Int), .pointer (some ⟨bt, 0, none⟩), .pointer (some ⟨bw, 0, none⟩), .pointer (some ⟨bo, 0, none⟩)] w fun e w' => e = .returned (.tuple #[]) ∧ Told w0 w A c l bt bw bo B q cb (o ++ readyT off p) w' := by
  intro N
  induction N with
  | zero =>
    intro p hp
    have := Pt.sz_pos p
    omega
  | succ N ih =>
    rintro ⟨op, pl, ks⟩ hp off w B q cb o hr hh hI ho
    obtain ⟨hhl, hn⟩ := hh.kids
    have hat : ((off + sz (.mk op pl ks) : Nat) - 1 : Int) = ((off + szL ks : Nat) : Int) := by rw [sz]; omega
    rw [hat]
    have hlt := (List.getElem?_eq_some_iff.1 hn).1
    obtain ⟨i, hi⟩ : ∃ i, i = off + szL ks := ⟨_, rfl⟩
    rw [← hi] at hn hlt ⊢
    obtain ⟨ad, K, kc, hA, x0, x1, x2, hk⟩ := H0.nd_at hI.hb hn
    simp only at x0 x1 x2 hk
    rw [roots_length] at x2 hk
    have HI := hide hI
    have HN := hide hn
    have HK := hide hk
    have HL := hide hhl
    have HII := hide hi
    have hsz : sz (.mk op pl ks) = 1 + szL ks := by rw [sz]
    have HSZ := hide hsz
    have t0 := blk_cell hI.ht 0
    have w0' := blk_cell hI.hw 0
    have o0 := blk_cell hI.ho 0
    have of := blk_frozen hI.ho 0
    have tlt := blk_lt hI.ht
    have wlt := blk_lt hI.hw
    have olt := blk_lt hI.ho
    simp at t0 w0' o0
    clear hI hn hk hhl hat hi hh hsz
    subst hA
    rcases RT.cases hr with ⟨h3, h7, rfl⟩ | ⟨h1, rfl, h2, h4⟩
    · have e1 : (op == 1) = false := by rw [beq_eq_false_iff_ne]; omega
      have e2 : (op == 2) = false := by rw [beq_eq_false_iff_ne]; omega
      clear hr
      go_enter Try.func73, Try.ntmps73
      go_wp2_with (at_builtin; refine wpList_append_int _ rfl (.tmp 15) (.tmp 17) rfl B q cb o rfl (HI.out.row.below (by repeat (first | exact Below.refl _ _ | refine Below.drew ?_ | refine below_drewN ?_ _ | refine Below.alloc ?_ (by simp) _))) _ i rfl (blk_new (by simp)) (by have := HI.out.len; omega) ?_; intro B' cb' w3 hrow3 honly3 hfp3; have bo3 := HI.out.far (by repeat (first | exact Below.refl _ _ | refine Below.drew ?_ | refine below_drewN ?_ _ | refine Below.alloc ?_ (by simp) _)) honly3; have p0 := blk_cell bo3 0; have pf := blk_frozen bo3 0; have plt := blk_lt bo3; simp at p0; have HR3 := hide hrow3; have HO3 := hide honly3; have HF3 := hide hfp3; clear hrow3 honly3 hfp3 bo3)
      have hfin : o ++ readyT off (.mk op pl []) = o ++ [(i : Int)] := by
        rw [readyT, if_pos h3, HII.out]
        rfl
      rw [hfin]
      go_end0
      refine ⟨rfl, HI.out.push (by repeat (first | exact Below.refl _ _ | refine Below.drew ?_ | refine below_drewN ?_ _ | refine Below.alloc ?_ (by simp) _)) HO3.out HR3.out (by rw [List.length_append, ← HI.out.len]; rfl) HF3.out⟩
    · have h13 : ¬ 3 ≤ op := by omega
      have HKS := hide h4
      clear h4
      rcases h1 with rfl | rfl
      · -- in order: the first part
        obtain ⟨p1, ps, rfl⟩ : ∃ p1 ps, ks = p1 :: ps := by
          cases ks with
          | nil => simp at h2
          | cons a t => exact ⟨a, t, rfl⟩
        have hz := HSZ.out
        rw [szL] at hz
        have hfin : o ++ readyT off (.mk 1 0 (p1 :: ps)) = o ++ readyT off p1 := by
          rw [readyT, if_neg (by omega)]
          exact congrArg (o ++ ·) (readyL_first p1 ps off)
        rw [hfin]
        have hk0 : (roots off (p1 :: ps))[0]? = some ((off + sz p1 : Nat) - 1 : Int) := rfl
        have HIH := hide (ih p1 (by omega) off)
        have HH1 := hide HL.out.cons.1
        have HR1 := hide ((HKS.out p1 (.head _)).1)
        clear hr ih hz hfin
        obtain ⟨kk, hkk⟩ : ∃ kk : Int, kk = ((off + sz p1 : Nat) - 1 : Int) := ⟨_, rfl⟩
        rw [← hkk] at hk0 HIH
        obtain ⟨kd, hkd, -, kdlt, k0⟩ := (HK.out.below HI.out.hb).int 0 (by simp [roots])
        have hk1 : (roots off (p1 :: ps))[0]'(by simp [roots]) = kk := by
          rw [hkk]
          rfl
        rw [hk1, show kd.add 0 = kd by simp [Addr.add]] at k0
        subst hkd
        have kw0 : w0.cell? kd = some (.int .i64 kk) := by
          obtain ⟨kd', hkd', -, -, k0'⟩ := HK.out.int 0 (by simp [roots])
          obtain rfl : kd = kd' := Option.some.inj hkd'
          rwa [hk1, show kd.add 0 = kd by simp [Addr.add]] at k0'
        have KW := hide kw0
        clear hkk hk0 hk1 kw0
        have hpos : (0 : Int) < (p1 :: ps).length := by simp
        have hpos' : 0 < (p1 :: ps).length := by simp
        obtain ⟨m, hm⟩ : ∃ m, m = (p1 :: ps).length := ⟨_, rfl⟩
        rw [← hm] at x2 hpos hpos'
        clear hm h2
        go_enter Try.func73, Try.ntmps73
        go_wp2
        have hs0 : ∀ (w4 W : World) (o' : List Int), Below w.heap.size w W → W.heap[w.heap.size]? = some (.cells #[.int .u8 1, .int .i64 0, .slice (some kd) m kc] 76 (0, 0)) → Told w0 W (some ad) c l bt bw bo B q cb o' w4 →
            w4.cell? ⟨bw, 0, none⟩ = some (.func (.func 73) #[] #[.pointer (some ⟨bt, 0, none⟩), .pointer (some ⟨bw, 0, none⟩), .pointer (some ⟨bo, 0, none⟩)]) ∧ w4.cell? ⟨w.heap.size, 2, none⟩ = some (.slice (some kd) m kc) ∧ w4.cell? kd = some (.int .i64 kk) := by
          rintro w4 W o' hB hn ⟨B', q', cb', hR, hO, _⟩
          have a1 := blk_cell hR.hw 0
          have a2 := box_only hn hO (by
            rintro (h | h)
            · exact absurd h (by omega)
            · exact Nat.lt_irrefl _ (HI.out.row.lt _ h))
          have a3 := (hR.hb.cell (p := kd) (World.block_lt_of_cell? _ _ KW.out)).trans KW.out
          exact ⟨by simpa using a1, by simpa using blk_cell a2 2, a3⟩
        have HS0 := hide hs0
        clear hs0
        go_region_held3 (fun w' => w'.cell? ⟨bw, 0, none⟩ = some (.func (.func 73) #[] #[.pointer (some ⟨bt, 0, none⟩), .pointer (some ⟨bw, 0, none⟩), .pointer (some ⟨bo, 0, none⟩)]) ∧ w'.cell? ⟨w.heap.size, 2, none⟩ = some (.slice (some kd) m kc) ∧ w'.cell? kd = some (.int .i64 kk)) (first | exact HS.out | go_keep | assumption) ((go_at_call 73; refine (HIH.out _ B q cb o HR1.out HH1.out (HI.out.below (by repeat (first | exact Below.refl _ _ | refine Below.drew ?_ | refine below_drewN ?_ _ | refine Below.alloc ?_ (by simp) _))) (by have := HSZ.out; rw [szL] at this; omega)).mono ?_; rintro e w4 ⟨rfl, ht4⟩; have HS := hide (HS0.out w4 _ _ (by repeat (first | exact Below.refl _ _ | refine Below.drew ?_ | refine below_drewN ?_ _ | refine Below.alloc ?_ (by simp) _)) (by repeat (first | exact heap_alloc_new _ _)) ht4); have HT4 := hide ht4; clear ht4))
        go_end0
        refine ⟨rfl, HT4.out.before (by repeat (first | exact Below.refl _ _ | refine Below.drew ?_ | refine below_drewN ?_ _ | refine Below.alloc ?_ (by simp) _))⟩
      · -- beside one another: all parts
        have hfin : readyT off (.mk 2 0 ks) = readyL true off ks := by
          rw [readyT, if_neg (by omega)]
          rfl
        rw [hfin]
        have HIH := hide ih
        have t0' : Told w0 w (some ad) c l bt bw bo B q cb (o ++ readyL true off (ks.take 0)) (w.alloc (.cells #[.int .u8 2, .int .i64 0, .slice K ks.length kc] 76)) := by
          refine ⟨B, q, cb, ?_, Only.of_below ((Below.refl _ _).alloc (Nat.le_refl _) _) _, fun b hb => .inl hb⟩
          rw [List.take_zero, readyL, List.append_nil]
          exact HI.out.below ((Below.refl _ _).alloc (Nat.le_refl _) _)
        have T0 := hide t0'
        have HO := hide ho
        have HP := hide hp
        have hm1 : ks.length ≤ 1000 := by
          have h1 := szL_ge ks
          have h2 := HII.out
          omega
        clear ih hr hfin t0' h2 ho hp
        obtain ⟨m, hm⟩ : ∃ m, m = ks.length := ⟨_, rfl⟩
        rw [← hm] at x2 T0 hm1
        have HM := hide hm
        clear hm
        go_enter Try.func73, Try.ntmps73
        go_wp2
        go_loopw [32] (fun i wr => ∃ j : Nat, j ≤ m ∧ i = .int .i64 j ∧ Hid (Told w0 w (some ad) c l bt bw bo B q cb (o ++ readyL true off (ks.take j)) wr)) (fun i _ => m - (intOf i).toNat)
        case atStart => exact ⟨0, Nat.zero_le _, rfl, T0.out⟩
        case round =>
          clear T0
          obtain ⟨j, hj, rfl, HT⟩ := hrel
          by_cases hlt2 : j < m
          · obtain ⟨pj, hpj⟩ : ∃ pj, ks[j]? = some pj := ⟨_, List.getElem?_eq_getElem (by rw [← HM.out]; exact hlt2)⟩
            obtain ⟨B', q', cb', hR, hO, hF⟩ := HT.out
            have hk0 := roots_get ks off j pj hpj
            obtain ⟨hjr, hk1⟩ := List.getElem?_eq_some_iff.1 hk0
            obtain ⟨kd, hkd, -, -, k0⟩ := (HK.out.below hR.hb).int j hjr
            rw [hk1] at k0
            subst hkd
            have hsz := szL_take_le ks j pj hpj
            have hc := HIH.out pj (by have := HSZ.out; have := HP.out; omega) (off + szL (ks.take j)) wr B' q' cb' _ (HKS.out pj (List.mem_of_getElem? hpj)).1 (HereL.get ks off j pj HL.out hpj) hR (by
              rw [List.length_append]
              have := readyL_len true (ks.take j) off
              have := HSZ.out
              have := HO.out
              omega)
            have wv := blk_cell hR.hw 0
            have wvlt := blk_lt hR.hw
            simp at wv
            obtain ⟨kk, hkk⟩ : ∃ kk : Int, kk = ((off + szL (ks.take j) + sz pj : Nat) - 1 : Int) := ⟨_, rfl⟩
            rw [← hkk] at k0 hc
            have HC := hide hc
            have HOO := hide hO
            have HFF := hide hF
            have HPJ := hide hpj
            clear hkk hc hR hO hF hsz hk1 hk0 hjr hpj
            go_wp2_with (go_at_call 73; refine HC.out.mono ?_; rintro e w4 ⟨rfl, ht4⟩; have HT4 := hide ht4; clear ht4)
            go_roundw
            case rel =>
              refine ⟨j + 1, by omega, by go_num, ?_⟩
              have h1 := HT4.out.then HOO.out HFF.out
              rw [List.append_assoc, ← readyL_next ks off j pj HPJ.out] at h1
              exact h1
            case measure => simp [intOf]; omega
          · have hjm : j = m := by omega
            subst hjm
            go_wp2
            go_end0
            have h1 := HT.out
            rw [HM.out, List.take_length] at h1
            exact ⟨rfl, h1⟩
end Go.Proofs.Ytbobjecjopmnfaa
