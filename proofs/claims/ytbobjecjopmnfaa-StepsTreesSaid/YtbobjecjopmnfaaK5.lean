/- The walk of Right. -/
import Derived.Test.YtbobjecjopmnfaaK4
namespace Go.Proofs.Ytbobjecjopmnfaa
open Go.RowKit
open Pt (szL encL roots encL_length roots_length)
theorem equal_n {ok ok' : Nat → Prop} {A B : Option Addr} {ca cb n m : Nat} (x y : List Int) (hx : x.length = n) (hy : y.length = m) (hn : n ≤ 100000) (w : World) (h : Rd w ok 1 (.slice A n ca) n (ints x)) (h' : Rds El.int w ok' (.slice B m cb) y) :
    Calls Try.prog 70 #[.slice A n ca, .slice B m cb] w fun e w' => e = .returned (.bool (decide (x = y))) ∧ ∃ n, w' = w.drewN n := by
  subst hx; subst hy
  exact equal_any x y hn w (Rds.of_ints h) h'
theorem szL_ge : ∀ (ps : List Pt), ps.length ≤ szL ps
  | [] => Nat.zero_le _
  | p :: ps => by
    have := Pt.sz_pos p
    have := szL_ge ps
    rw [szL, List.length_cons]
    omega
theorem run_open {f : Int → Int} {l : List Nd} {j : Nat} {o : List Int} (hf : f = opAt l) (hj : j ≤ l.length) (h : run f 0 (l.take j) [] = some o) : o.length ≤ j ∧ ∀ x ∈ o, 0 ≤ x ∧ x < j := by
  subst hf
  obtain ⟨ps, _, h2, rfl⟩ := run_sound j hj o h
  have hs : szL ps = j := by rw [← encL_length 0 ps, ← h2, List.length_take]; omega
  refine ⟨?_, fun x hx => ?_⟩
  · rw [roots_length, ← hs]
    exact szL_ge ps
  · have := roots_lt 0 ps x hx
    omega
theorem run_next {l : List Nd} {j : Nat} {o o' : List Int} {n : Nd} (hn : l[j]? = some n) (h : run (opAt l) 0 (l.take j) [] = some o) (hs : rstep (opAt l) j n o = some o') : run (opAt l) 0 (l.take (j + 1)) [] = some o' := by
  obtain ⟨hlt, rfl⟩ := List.getElem?_eq_some_iff.1 hn
  rw [List.take_succ_eq_append_getElem hlt, run_append, h, Option.bind_some, List.length_take, Nat.min_eq_left (Nat.le_of_lt hlt), Nat.zero_add, run, hs]
  rfl
theorem run_stop {l : List Nd} {j : Nat} {o : List Int} {n : Nd} (hn : l[j]? = some n) (h : run (opAt l) 0 (l.take j) [] = some o) (hs : rstep (opAt l) j n o = none) : rightB l = false := by
  obtain ⟨hlt, rfl⟩ := List.getElem?_eq_some_iff.1 hn
  unfold rightB
  have e : l = l.take j ++ l[j] :: l.drop (j + 1) := by rw [← List.drop_eq_getElem_cons hlt, List.take_append_drop]
  have : run (opAt l) 0 l [] = none := by
    conv => lhs; arg 3; rw [e]
    rw [run_append, h, Option.bind_some, List.length_take, Nat.min_eq_left (Nat.le_of_lt hlt), Nat.zero_add, run, hs]
    rfl
  rw [this]
theorem run_end {l : List Nd} {o : List Int} (h : run (opAt l) 0 (l.take l.length) [] = some o) : rightB l = decide (o.length < 2) := by
  rw [List.take_length] at h
  unfold rightB
  rw [h]
theorem rstep_none {f : Int → Int} {j : Nat} {n : Nd} {o : List Int} (hl : n.leaf = false) (h : ¬ (n.fork = true ∧ n.kids.length ≤ o.length ∧ o.drop (o.length - n.kids.length) = n.kids)) : rstep f j n o = none := by
  unfold rstep
  rw [if_neg (by rw [hl]; simp), if_neg h]
theorem fork_iff {op pl : Int} {ks : List Int} : (⟨op, pl, ks⟩ : Nd).fork = true ↔ (op = 1 ∨ op = 2) ∧ pl = 0 ∧ 2 ≤ ks.length := by
  simp only [Nd.fork, Bool.and_eq_true, Bool.or_eq_true, decide_eq_true_eq]
theorem leaf_iff {op pl : Int} {ks : List Int} : (⟨op, pl, ks⟩ : Nd).leaf = true ↔ (3 ≤ op ∧ op ≤ 7) ∧ ks.length = 0 := by
  simp only [Nd.leaf, Bool.and_eq_true, decide_eq_true_eq]
theorem rstep_leaf {f : Int → Int} {j : Nat} {n : Nd} {o : List Int} (hl : n.leaf = true) : rstep f j n o = some (o ++ [(j : Int)]) := by
  unfold rstep
  rw [if_pos hl]
theorem containsfunc_n {ok : Nat → Prop} {A : Option Addr} {c n : Nat} (l : List Int) (p : Int → Bool) (q1 q2 : Option Addr) (hx : l.length = n) (hn : n ≤ 100000) (w : World) (h : Rds El.int w ok (.slice A n c) l)
    (hf : ∀ x ∈ l, ∀ n, Calls Try.prog 72 #[.int .i64 x, .pointer q1, .pointer q2] (w.drewN n) fun e w' => e = .returned (.bool (p x)) ∧ ∃ m, w' = (w.drewN n).drewN m) :
    Calls Try.prog 71 #[.slice A n c, .func (.func 72) #[] #[.pointer q1, .pointer q2]] w fun e w' => e = .returned (.bool (l.any p)) ∧ ∃ n, w' = w.drewN n := by
  subst hx
  exact containsfunc_int l p q1 q2 hn w h hf
theorem Row.cut {w : World} {e g of k m c : Nat} {xs : List Value} (h : Row w e 1 (.slice (some ⟨g, of, none⟩) (k + m) c) (k + m) xs) (hne : ¬ c = k) : Row w e 1 (.slice (some ⟨g, of + k, none⟩) m (c - k)) m (xs.drop k) := by
  have h1 := (h.drop (k := k) (by omega)).1
  rw [if_neg hne, Option.map_some, add_at, Nat.mul_one, Nat.add_sub_cancel_left] at h1
  exact h1
theorem ints_drop (l : List Int) (k : Nat) : (ints l).drop k = ints (l.drop k) := by simp [ints]
theorem ints_take (l : List Int) (k : Nat) : (ints l).take k = ints (l.take k) := by simp [ints]
/-- Right's loop: what is open; the boxes. -/
structure Rig (w wr : World) (A : Option Addr) (c : Nat) (l : List Nd) (j : Nat) (o : List Int) (B : Option Addr) (cb : Nat) : Prop where
  rn : run (opAt l) 0 (l.take j) [] = some o
  bx : wr.heap[w.heap.size]? = some (.cells #[.slice A l.length c] 59 (0, 0))
  row : Row wr 3 1 (.slice B o.length cb) o.length (ints o)
  fp : ∀ b, Fp (.slice B o.length cb) b → w.heap.size ≤ b
  hb : Below w.heap.size w wr
theorem Rig.push {w wr W W' : World} {A B B' : Option Addr} {c cb cb' k j q' : Nat} {l : List Nd} {o o' : List Int} {n : Nd} (I : Rig w wr A c l j o B cb) (hn : l[j]? = some n) (hs : rstep (opAt l) j n o = some o') (hB : Below wr.heap.size wr W)
    (ho : Only (Fp (.slice B k cb)) W W') (hk : ∀ b, Fp (.slice B k cb) b → Fp (.slice B o.length cb) b) (hrow : Row W' 3 1 (.slice B' q' cb') q' (ints o')) (hq : q' = o'.length) (hf : ∀ b, Fp (.slice B' q' cb') b → Fp (.slice B k cb) b ∨ W.heap.size ≤ b) : Rig w W' A c l (j + 1) o' B' cb' := by
  subst hq
  have bx := box_same I.bx hB
  have hB0 := I.hb.trans (hB.mono I.hb.size)
  refine ⟨run_next hn I.rn hs, box_only bx ho (fun h => (I.row.below hB).ne_ bx (by decide) (hk _ h)), hrow, fun b hb => ?_, hB0.trans (ho.below (fun b hb => I.fp b (hk b hb)) hB0.size)⟩
  rcases hf b hb with h | h
  · exact I.fp b (hk b h)
  · exact Nat.le_trans hB0.size h
/-- Whether the row is a tree's comes back; nothing that was there has turned. -/
def SaysR (b : Bool) (w : World) (e : Ending) (w' : World) : Prop := e = .returned (.bool b) ∧ Below w.heap.size w w'
set_option maxRecDepth 20000 in
set_option maxHeartbeats 8000000 in
theorem right_any {ok : Nat → Prop} {A : Option Addr} {c : Nat} (l : List Nd) (w : World) (h : Rds El.nd w ok (.slice A l.length c) l) (hf : Fits22 l) :
    Calls Try.prog 41 #[.agg #[.slice A l.length c]] w (SaysR (rightB l) w) := by
  have hl := hf.1
  have HF := hide hf
  have H := hide h
  clear h hf
  have i0 : Rig w (w.alloc (.cells #[.slice A l.length c] 59)) A c l 0 [] none 0 := ⟨rfl, blk_new rfl, Row.nil _ _ _, fun b hb => (Fp_none hb).elim, (Below.refl _ _).alloc (Nat.le_refl _) _⟩
  have I0 := hide i0
  clear i0
  go_enter Try.func41, Try.ntmps41
  go_wp2
  go_loopw [3, 10] (fun s i wr => ∃ (j : Nat) (o : List Int) (q : Nat) (B : Option Addr) (cb : Nat), j ≤ l.length ∧ i = .int .i64 j ∧ q = o.length ∧ s = .slice B q cb ∧ Hid (Rig w wr A c l j o B cb)) (fun _ i _ => l.length - (intOf i).toNat)
  case atStart => exact ⟨0, [], 0, none, 0, Nat.zero_le _, rfl, rfl, rfl, I0.out⟩
  case round =>
    clear I0
    obtain ⟨j, o, q, B, cb, hj, rfl, hq, rfl, I⟩ := hrel
    have hqj := (run_open rfl hj I.out.rn).1
    rw [← hq] at hqj
    have HQ := hide hq
    clear hq
    by_cases hlt2 : j < l.length
    · obtain ⟨n, hn⟩ : ∃ n, l[j]? = some n := ⟨_, List.getElem?_eq_getElem hlt2⟩
      obtain ⟨ad, K, kc, hA, x0, x1, x2, hk⟩ := H.out.nd_at I.out.hb hn
      have hkl := HF.out.2 n (List.mem_of_getElem? hn)
      have HK := hide hk
      have HN := hide hn
      clear hn hk
      obtain ⟨no, np, nk⟩ := n
      simp only at x0 x1 x2 hkl
      subst hA
      have hst : (⟨no, np, nk⟩ : Nd).leaf = false → ¬ ((⟨no, np, nk⟩ : Nd).fork = true ∧ nk.length ≤ o.length ∧ o.drop (o.length - nk.length) = nk) → rightB l = false := fun h1 h2 => run_stop HN.out I.out.rn (rstep_none h1 h2)
      have HST := hide hst
      have HB1 := hide (I.out.hb.alloc I.out.hb.size (.cells #[.int .u8 no, .int .i64 np, .slice K nk.length kc] 76))
      clear hst
      by_cases h12 : no = 1 ∨ no = 2
      · have hlf : (⟨no, np, nk⟩ : Nd).leaf = false := by
          rw [Bool.eq_false_iff]
          intro h
          have := (leaf_iff.1 h).1
          omega
        have HLF := hide hlf
        have HOP := hide h12
        clear hlf
        have h3 : no < 3 := by omega
        have hb : (no != 1) = false ∨ ((no != 1) = true ∧ (no != 2) = false) := by
          rcases h12 with rfl | rfl
          · exact .inl rfl
          · exact .inr ⟨rfl, rfl⟩
        clear h12
        rcases hb with n1 | ⟨n1, n2⟩
        all_goals
          by_cases hp : np = 0
          · subst hp
            by_cases h2 : nk.length < 2
            · have h2a : decide ((nk.length : Int) < 2) = true := decide_eq_true (by omega)
              have h2b : decide (nk.length < 2) = true := decide_eq_true h2
              go_wp2
              go_quiet (fail)
              go_wp2
              go_ret
              exact ⟨by rw [HST.out HLF.out (fun h => by have := (fork_iff.1 h.1).2.2; omega)]; rfl, below_drewN HB1.out _⟩
            · have h2a : decide ((nk.length : Int) < 2) = false := decide_eq_false (by omega)
              have h2b : decide (nk.length < 2) = false := decide_eq_false h2
              by_cases hqk : q < nk.length
              · have h3a : decide ((q : Int) - nk.length < 0) = true := decide_eq_true (by omega)
                have h3b : decide (q < nk.length) = true := decide_eq_true hqk
                go_wp2
                go_quiet (fail)
                go_wp2
                go_ret
                exact ⟨by rw [HST.out HLF.out (fun h => by have := h.2.1; rw [← HQ.out] at this; omega)]; rfl, below_drewN HB1.out _⟩
              · obtain ⟨k, hk⟩ : ∃ k, q = k + nk.length := ⟨q - nk.length, by omega⟩
                have hne : ¬ cb = k := by
                  obtain ⟨_, _, he, hc⟩ := I.out.row.slice_
                  injection he with _ _ h3
                  rw [← HQ.out] at hc
                  omega
                have hkb : k ≤ cb := by
                  obtain ⟨_, _, he, hc⟩ := I.out.row.slice_
                  injection he with _ _ h3
                  rw [← HQ.out] at hc
                  omega
                obtain ⟨g, of, hB⟩ : ∃ g of, B = some ⟨g, of, none⟩ := by
                  obtain ⟨g, of, _, hA, _⟩ := I.out.row.place (by omega)
                  exact ⟨g, of, hA⟩
                subst hk; subst hB
                obtain ⟨m, hm⟩ : ∃ m, m = nk.length := ⟨_, rfl⟩
                rw [← hm] at x2 HB1 hkl h2a h2b h2 hqj hqk HQ ⊢
                have HM := hide hm
                clear hm hqk
                have h3a : decide ((k : Int) < 0) = false := decide_eq_false (by omega)
                have hrow : Row wr 3 1 (.slice (some ⟨g, of, none⟩) (k + m) cb) (k + m) (ints o) := by
                  have h := I.out.row
                  rwa [← HQ.out] at h
                have HD : Hid (Rd wr (fun _ => True) 1 (.slice (some ⟨g, of + k, none⟩) m (cb - k)) m (ints (o.drop k))) := by
                  have h := (hrow.cut hne).rd (ok := fun _ => True) (fun _ _ => trivial)
                  rwa [ints_drop] at h
                have HT := hide (hrow.take (k := k) (by omega))
                clear hrow
                have HBK := hide (Rds.below HK.out I.out.hb)
                rw [← HM.out] at HBK
                have hko : o.length - nk.length = k := by rw [← HQ.out, ← HM.out]; omega
                by_cases he : o.drop k = nk
                · have hde : decide (o.drop k = nk) = true := decide_eq_true he
                  have HE := hide he
                  clear he
                  have hcl : ∀ x ∈ nk, ∀ n n0, Calls Try.prog 72 #[.int .i64 x, .pointer (some ⟨w.heap.size, 0, none⟩), .pointer (some ⟨wr.heap.size, 0, none⟩)] (((wr.alloc (.cells #[.int .u8 no, .int .i64 0, .slice K m kc] 76)).drewN n0).drewN n) fun e w' => e = .returned (.bool (decide (opAt l x = no))) ∧ ∃ q, w' = (((wr.alloc (.cells #[.int .u8 no, .int .i64 0, .slice K m kc] 76)).drewN n0).drewN n).drewN q := by
                    intro x hx n n0
                    have hxo := (run_open rfl hj I.out.rn).2 x (List.mem_of_mem_drop (by rw [HE.out]; exact hx))
                    have hB2 : Below w.heap.size w (((wr.alloc (.cells #[.int .u8 no, .int .i64 0, .slice K m kc] 76)).drewN n0).drewN n) := below_drewN (below_drewN HB1.out _) _
                    exact right1_any w.heap.size wr.heap.size l no x _ (H.out.below hB2) hxo.1 (by omega) (blk_cell (blk_alloc I.out.bx _) 0) (blk_cell (heap_alloc_new wr _) 0)
                  have HCL := hide hcl
                  clear hcl
                  by_cases hany : nk.any (fun x => decide (opAt l x = no)) = true
                  · go_wp2
                    go_quiet ((go_at_call 70; exact Calls.quiet_of (equal_n (o.drop k) nk (by rw [List.length_drop, ← HQ.out]; omega) HM.out.symm (by omega) _ (HD.out.below (below_drewN ((Below.refl _ _).alloc (Nat.le_refl _) _) _)) (HBK.out.below (below_drewN ((Below.refl _ _).alloc (Nat.le_refl _) _) _)))))
                    go_wp2_with (go_at_call 71; refine (containsfunc_n nk (fun x => decide (opAt l x = no)) _ _ HM.out.symm (by omega) _ (HBK.out.below (below_drewN ((Below.refl _ _).alloc (Nat.le_refl _) _) _)) (fun x hx n => HCL.out x hx n _)).mono ?_; rintro e w' ⟨rfl, n2, rfl⟩)
                    go_ret
                    refine ⟨?_, below_drewN HB1.out _⟩
                    rw [run_stop HN.out I.out.rn (by
                      unfold rstep
                      rw [if_neg (by rw [HLF.out]; simp), if_pos ⟨fork_iff.2 ⟨HOP.out, rfl, by rw [← HM.out]; omega⟩, by show nk.length ≤ _; rw [← HM.out, ← HQ.out]; omega, by show o.drop (o.length - nk.length) = nk; rw [hko]; exact HE.out⟩, if_pos hany])]
                    rfl
                  · have hanf : nk.any (fun x => decide (opAt l x = no)) = false := by simpa using hany
                    have hs : rstep (opAt l) j ⟨no, 0, nk⟩ o = some (o.take k ++ [(j : Int)]) := by
                      unfold rstep
                      rw [if_neg (by rw [HLF.out]; simp), if_pos ⟨fork_iff.2 ⟨HOP.out, rfl, by rw [← HM.out]; omega⟩, by show nk.length ≤ _; rw [← HM.out, ← HQ.out]; omega, by show o.drop (o.length - nk.length) = nk; rw [hko]; exact HE.out⟩, if_neg (by rw [hanf]; simp)]
                      show some (o.take (o.length - nk.length) ++ _) = _
                      rw [hko]
                    have HS := hide hs
                    have HANF := hide hanf
                    have hT1 := HT.out.1
                    rw [Nat.mul_one, ints_take] at hT1
                    have HT1 := hide hT1
                    have HT2 := hide HT.out.2
                    clear hs hany hanf hT1
                    go_wp2
                    go_quiet ((go_at_call 70; exact Calls.quiet_of (equal_n (o.drop k) nk (by rw [List.length_drop, ← HQ.out]; omega) HM.out.symm (by omega) _ (HD.out.below (below_drewN ((Below.refl _ _).alloc (Nat.le_refl _) _) _)) (HBK.out.below (below_drewN ((Below.refl _ _).alloc (Nat.le_refl _) _) _)))))
                    go_wp2_with (first | (go_at_call 71; refine (containsfunc_n nk (fun x => decide (opAt l x = no)) _ _ HM.out.symm (by omega) _ (HBK.out.below (below_drewN ((Below.refl _ _).alloc (Nat.le_refl _) _) _)) (fun x hx n => HCL.out x hx n _)).mono ?_; rintro e w' ⟨rfl, n2, rfl⟩; have hf := HANF.out) | (at_builtin; refine wpList_append_int _ rfl (.tmp 77) (.tmp 79) rfl _ k cb (o.take k) rfl (HT1.out.below (by repeat (first | exact Below.refl _ _ | refine Below.drew ?_ | refine below_drewN ?_ _ | refine Below.alloc ?_ (by simp) _))) _ j rfl (blk_new (by simp)) (by omega) ?_; intro B' cb' w3 hrow3 honly3 hfp3; have HR3 := hide hrow3; have HO3 := hide honly3; have HF3 := hide hfp3; clear hrow3 honly3 hfp3))
                    go_roundw
                    case rel => exact ⟨j + 1, o.take k ++ [(j : Int)], k + 1, B', cb', by omega, by go_num, by rw [List.length_append, List.length_take, ← HQ.out]; simp, rfl, I.out.push HN.out HS.out (by repeat (first | exact Below.refl _ _ | refine Below.drew ?_ | refine below_drewN ?_ _ | refine Below.alloc ?_ (by simp) _)) HO3.out (fun b hb => by rw [← HQ.out]; exact HT2.out b hb) HR3.out (by rw [List.length_append, List.length_take, ← HQ.out]; simp) HF3.out⟩
                    case measure => simp [intOf]; omega
                · have hde : decide (o.drop k = nk) = false := decide_eq_false he
                  have HE := hide he
                  clear he
                  go_wp2
                  go_quiet ((go_at_call 70; exact Calls.quiet_of (equal_n (o.drop k) nk (by rw [List.length_drop, ← HQ.out]; omega) HM.out.symm (by omega) _ (HD.out.below (below_drewN ((Below.refl _ _).alloc (Nat.le_refl _) _) _)) (HBK.out.below (below_drewN ((Below.refl _ _).alloc (Nat.le_refl _) _) _)))))
                  go_wp2
                  go_ret
                  exact ⟨by rw [HST.out HLF.out (fun h => HE.out (by have h2 := h.2.2; rwa [hko] at h2))]; rfl, below_drewN HB1.out _⟩
          · have hp' : (np != 0) = true := by simpa using hp
            have HP := hide hp
            clear hp
            go_wp2
            go_quiet (fail)
            go_wp2
            go_ret
            exact ⟨by rw [HST.out HLF.out (fun h => HP.out (fork_iff.1 h.1).2.1)]; rfl, below_drewN HB1.out _⟩
      · have hop : no < 3 ∨ 7 < no ∨ (3 ≤ no ∧ no ≤ 7) := by omega
        have n1 : (no != 1) = true := by simp; omega
        have n2 : (no != 2) = true := by simp; omega
        have H12 := hide h12
        clear h12
        by_cases hk0 : (3 ≤ no ∧ no ≤ 7) ∧ nk.length = 0
        · obtain ⟨⟨h3, h7⟩, hk0⟩ := hk0
          have hlf : (⟨no, np, nk⟩ : Nd).leaf = true := leaf_iff.2 ⟨⟨h3, h7⟩, hk0⟩
          have HLF := hide hlf
          clear hlf
          have hk1 : nk = [] := List.length_eq_zero_iff.1 hk0
          have hrow : Row wr 3 1 (.slice B q cb) q (ints o) := by
            have h := I.out.row
            rwa [← HQ.out] at h
          have HROW := hide hrow
          clear hrow
          subst hk1
          go_wp2_with (at_builtin; refine wpList_append_int _ rfl (.tmp 29) (.tmp 31) rfl B q cb o rfl ((HROW.out.alloc _).alloc _) _ j rfl (blk_new (by simp)) (by omega) ?_; intro B' cb' w3 hrow3 honly3 hfp3; have HR3 := hide hrow3; have HO3 := hide honly3; have HF3 := hide hfp3; clear hrow3 honly3 hfp3)
          go_roundw
          case rel => exact ⟨j + 1, o ++ [(j : Int)], q + 1, B', cb', by omega, by go_num, by rw [List.length_append, ← HQ.out]; rfl, rfl, I.out.push HN.out (rstep_leaf HLF.out) (((Below.refl _ _).alloc (Nat.le_refl _) _).alloc (by simp) _) HO3.out (fun b hb => by rw [← HQ.out]; exact hb) HR3.out (by rw [List.length_append, ← HQ.out]; rfl) HF3.out⟩
          case measure => simp [intOf]; omega
        · have hlf : (⟨no, np, nk⟩ : Nd).leaf = false := by
            rw [Bool.eq_false_iff]
            intro h
            exact hk0 (leaf_iff.1 h)
          have hr := HST.out hlf (fun h => H12.out (fork_iff.1 h.1).1)
          have HR := hide hr
          clear hr hlf
          rcases hop with hop | hop | ⟨h3, h7⟩
          · clear hk0
            go_wp2
            go_quiet (fail)
            go_wp2
            go_ret
            exact ⟨by rw [HR.out]; rfl, below_drewN HB1.out _⟩
          · clear hk0
            go_wp2
            go_quiet (fail)
            go_wp2
            go_ret
            exact ⟨by rw [HR.out]; rfl, below_drewN HB1.out _⟩
          · have hk1 : 0 < nk.length := by
              rcases Nat.eq_zero_or_pos nk.length with h | h
              · exact absurd ⟨⟨h3, h7⟩, h⟩ hk0
              · exact h
            have hk2 : ((nk.length : Int) == 0) = false := by rw [beq_eq_false_iff_ne]; omega
            have hk3 : (nk.length == 0) = false := by rw [beq_eq_false_iff_ne]; omega
            clear hk0
            go_wp2
            go_quiet (fail)
            go_wp2
            go_ret
            exact ⟨by rw [HR.out]; rfl, below_drewN HB1.out _⟩
    · obtain rfl : j = l.length := by omega
      have HR := hide (run_end I.out.rn)
      rw [← HQ.out] at HR
      go_wp2
      go_ret
      refine ⟨?_, I.out.hb⟩
      rw [HR.out]
      show Ending.returned (.bool (decide ((q : Int) < 2))) = _
      congr 2
      exact decide_eq_decide.2 (by omega)
end Go.Proofs.Ytbobjecjopmnfaa
