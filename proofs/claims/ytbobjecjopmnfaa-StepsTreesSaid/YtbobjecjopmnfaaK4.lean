/- The walks of Equal, Index, Contains (of integers), Right's closure, IndexFunc, ContainsFunc. -/
import Derived.Test.YtbobjecjopmnfaaK2
namespace Go.Proofs.Ytbobjecjopmnfaa
open Go.RowKit
theorem drewN_add (w : World) (a b : Nat) : (w.drewN a).drewN b = w.drewN (a + b) := by
  unfold World.drewN
  simp [Nat.add_assoc]
set_option maxHeartbeats 2000000 in
theorem equal_any {ok ok' : Nat → Prop} {A B : Option Addr} {ca cb : Nat} (l m : List Int) (hn : l.length ≤ 100000) (w : World) (h : Rds El.int w ok (.slice A l.length ca) l) (h' : Rds El.int w ok' (.slice B m.length cb) m) :
    Calls Try.prog 70 #[.slice A l.length ca, .slice B m.length cb] w fun e w' => e = .returned (.bool (decide (l = m))) ∧ ∃ n, w' = w.drewN n := by
  have H := hide h
  have H' := hide h'
  clear h h'
  by_cases hlm : l.length = m.length
  · go_enter Try.func70, Try.ntmps70
    go_wp2
    go_loopw [13] (fun i wr => ∃ j : Nat, j ≤ l.length ∧ i = .int .i64 j ∧ Hid (l.take j = m.take j) ∧ Hid (∃ n, wr = w.drewN n)) (fun i _ => l.length - (intOf i).toNat)
    case atStart => exact ⟨0, Nat.zero_le _, rfl, rfl, 0, rfl⟩
    case round =>
      obtain ⟨j, hj, rfl, HE, HB⟩ := hrel
      by_cases hlt2 : j < l.length
      · obtain ⟨ad, hA, -, hltd, x0⟩ := (H.out.below (drewn_below HB.out)).int j hlt2
        obtain ⟨bd, hB, -, hltb, y0⟩ := (H'.out.below (drewn_below HB.out)).int j (by omega)
        obtain ⟨x, hx⟩ : ∃ x, x = l[j] := ⟨_, rfl⟩
        obtain ⟨y, hy⟩ : ∃ y, y = m[j]'(by omega) := ⟨_, rfl⟩
        rw [← hx] at x0
        rw [← hy] at y0
        subst hA; subst hB
        have HX := hide hx
        have HY := hide hy
        clear hx hy
        by_cases hxy : x = y
        · subst hxy
          go_wp2
          go_region
          go_wp2
          go_roundw
          case rel =>
            refine ⟨j + 1, by omega, by go_num, ?_, drewn_drew HB.out⟩
            rw [List.take_succ_eq_append_getElem hlt2, List.take_succ_eq_append_getElem (by omega), HE.out, ← HX.out, ← HY.out]
            exact rfl
          case measure => simp [intOf]; omega
        · have hne : (x != y) = true := by simpa using hxy
          go_wp2
          go_region
          go_wp2
          go_ret
          refine ⟨?_, drewn_drew HB.out⟩
          have : l ≠ m := fun e => hxy (by rw [HX.out, HY.out]; simp only [e])
          simp [this]
      · have : l = m := by
          have h1 := HE.out
          rwa [List.take_of_length_le (by omega), List.take_of_length_le (by omega)] at h1
        have HL := hide this
        clear this
        go_wp2
        go_ret
        refine ⟨?_, HB.out⟩
        rw [HL.out]
        simp
  · have : l ≠ m := fun e => hlm (by rw [e])
    have HL := hide this
    clear this
    go_enter Try.func70, Try.ntmps70
    go_wp2
    go_ret
    refine ⟨?_, 0, rfl⟩
    have := HL.out
    simp [this]
/-- An index comes back: 0 or more where P holds, else -1; nothing is turned. -/
def IxSays (b : Bool) (w : World) (e : Ending) (w' : World) : Prop := ∃ r : Int, e = .returned (.int .i64 r) ∧ -1 ≤ r ∧ (decide (0 ≤ r) = b) ∧ ∃ n, w' = w.drewN n
set_option maxHeartbeats 2000000 in
theorem index_int {ok : Nat → Prop} {A : Option Addr} {c : Nat} (l : List Int) (x : Int) (hn : l.length ≤ 100000) (w : World) (h : Rds El.int w ok (.slice A l.length c) l) :
    Calls Try.prog 80 #[.slice A l.length c, .int .i64 x] w (IxSays (l.contains x) w) := by
  have H := hide h
  clear h
  go_enter Try.func80, Try.ntmps80
  go_wp2
  go_loop [8] (fun i => ∃ j : Nat, j ≤ l.length ∧ i = .int .i64 j ∧ Hid (x ∉ l.take j)) (fun i => l.length - (intOf i).toNat)
  case atStart => exact ⟨0, Nat.zero_le _, rfl, by show x ∉ l.take 0; simp⟩
  case round =>
    obtain ⟨j, hj, rfl, HN⟩ := hrel
    by_cases hlt2 : j < l.length
    · obtain ⟨ad, hA, -, hltd, x0⟩ := H.out.int j hlt2
      obtain ⟨y, hy⟩ : ∃ y, y = l[j] := ⟨_, rfl⟩
      rw [← hy] at x0
      subst hA
      have HY := hide hy
      clear hy
      by_cases hxy : x = y
      · subst hxy
        go_wp2
        go_ret
        refine ⟨j, rfl, by omega, ?_, 0, rfl⟩
        have : x ∈ l := by rw [HY.out]; exact List.getElem_mem hlt2
        simp [this]
      · have hne : (x == y) = false := by simpa using hxy
        go_wp2
        go_round
        case rel =>
          refine ⟨j + 1, by omega, by go_num, ?_⟩
          show x ∉ l.take (j + 1)
          rw [List.take_succ_eq_append_getElem hlt2, ← HY.out]
          simp [HN.out, hxy]
        case measure => simp [intOf]; omega
    · go_wp2
      go_ret
      refine ⟨-1, rfl, by omega, ?_, 0, rfl⟩
      have h1 := HN.out
      rw [List.take_of_length_le (by omega)] at h1
      simp [h1]
theorem contains_int {ok : Nat → Prop} {A : Option Addr} {c : Nat} (l : List Int) (x : Int) (hn : l.length ≤ 100000) (w : World) (h : Rds El.int w ok (.slice A l.length c) l) :
    Calls Try.prog 66 #[.slice A l.length c, .int .i64 x] w fun e w' => e = .returned (.bool (l.contains x)) ∧ ∃ n, w' = w.drewN n := by
  go_enter Try.func66, Try.ntmps66
  go_wp2_with (go_at_call 80; refine (index_int l x hn _ h).mono ?_; rintro e w' ⟨r, rfl, hr, hd, n, rfl⟩; have HD := hide hd; clear hd)
  go_ret
  refine ⟨?_, n, rfl⟩
  show Ending.returned (.bool (decide (0 ≤ r))) = _
  rw [HD.out]
theorem right1_any {ok : Nat → Prop} {A : Option Addr} {c : Nat} (bt bn : Nat) (l : List Nd) (op : Int) (k : Int) (w : World) (h : Rds El.nd w ok (.slice A l.length c) l) (h0 : 0 ≤ k) (h1 : k < l.length)
    (c1 : w.cell? ⟨bt, 0, none⟩ = some (.slice A l.length c)) (c2 : w.cell? ⟨bn, 0, none⟩ = some (.int .u8 op)) :
    Calls Try.prog 72 #[.int .i64 k, .pointer (some ⟨bt, 0, none⟩), .pointer (some ⟨bn, 0, none⟩)] w fun e w' => e = .returned (.bool (decide (opAt l k = op))) ∧ ∃ n, w' = w.drewN n := by
  obtain ⟨j, rfl⟩ := Int.eq_ofNat_of_zero_le h0
  have hj : j < l.length := by omega
  have hx : l[j]? = some l[j] := List.getElem?_eq_getElem hj
  obtain ⟨ad, K, kc, hA, x0, -, -, -⟩ := h.nd_at (Below.refl _ _) hx
  have ho : opAt l j = l[j].op := by
    unfold opAt
    rw [Int.toNat_natCast, hx]
    rfl
  obtain ⟨y, hy⟩ : ∃ y, y = l[j].op := ⟨_, rfl⟩
  rw [← hy] at x0 ho
  rw [ho]
  subst hA
  clear h ho hy hx
  go_enter Try.func72, Try.ntmps72
  go_wp2
  go_quiet (fail)
  go_wp2
  go_ret
  refine ⟨?_, _, rfl⟩
  show Ending.returned (.bool (y == op)) = _
  rw [Bool.beq_eq_decide_eq]
set_option maxHeartbeats 2000000 in
theorem indexfunc_int {ok : Nat → Prop} {A : Option Addr} {c : Nat} (l : List Int) (p : Int → Bool) (q1 q2 : Option Addr) (hn : l.length ≤ 100000) (w : World) (h : Rds El.int w ok (.slice A l.length c) l)
    (hf : ∀ x ∈ l, ∀ n, Calls Try.prog 72 #[.int .i64 x, .pointer q1, .pointer q2] (w.drewN n) fun e w' => e = .returned (.bool (p x)) ∧ ∃ m, w' = (w.drewN n).drewN m) :
    Calls Try.prog 83 #[.slice A l.length c, .func (.func 72) #[] #[.pointer q1, .pointer q2]] w (IxSays (l.any p) w) := by
  have H := hide h
  have HF := hide hf
  clear h hf
  go_enter Try.func83, Try.ntmps83
  go_wp2
  go_loopw [8] (fun i wr => ∃ (j : Nat) (n : Nat), j ≤ l.length ∧ i = .int .i64 j ∧ Hid ((l.take j).any p = false) ∧ wr = w.drewN n) (fun i _ => l.length - (intOf i).toNat)
  case atStart => exact ⟨0, 0, Nat.zero_le _, rfl, rfl, rfl⟩
  case round =>
    obtain ⟨j, n, hj, rfl, HN, rfl⟩ := hrel
    by_cases hlt2 : j < l.length
    · obtain ⟨ad, hA, -, hltd, x0⟩ := (H.out.below (drewn_below ⟨n, rfl⟩)).int j hlt2
      obtain ⟨y, hy⟩ : ∃ y, y = l[j] := ⟨_, rfl⟩
      rw [← hy] at x0
      have hc := HF.out y (by rw [hy]; exact List.getElem_mem hlt2) n
      have HC := hide hc
      subst hA
      have HY := hide hy
      clear hy hc
      go_wp2_with (go_at_call 72; refine Calls.mono HC.out ?_; rintro e w2 ⟨rfl, m, rfl⟩)
      · have hh : p y = true := by assumption
        go_ret
        refine ⟨j, rfl, by omega, ?_, n + m, rfl⟩
        have : l.any p = true := List.any_eq_true.2 ⟨y, by rw [HY.out]; exact List.getElem_mem hlt2, hh⟩
        simp [this]
      · have hh : p y = false := by assumption
        go_roundw
        case rel =>
          refine ⟨j + 1, n + m, by omega, by go_num, ?_, rfl⟩
          show (l.take (j + 1)).any p = false
          rw [List.take_succ_eq_append_getElem hlt2, ← HY.out, List.any_append, HN.out]
          simp [hh]
        case measure => simp [intOf]; omega
    · go_wp2
      go_ret
      refine ⟨-1, rfl, by omega, ?_, n, rfl⟩
      have h1 := HN.out
      rw [List.take_of_length_le (by omega)] at h1
      rw [h1]
      rfl
theorem containsfunc_int {ok : Nat → Prop} {A : Option Addr} {c : Nat} (l : List Int) (p : Int → Bool) (q1 q2 : Option Addr) (hn : l.length ≤ 100000) (w : World) (h : Rds El.int w ok (.slice A l.length c) l)
    (hf : ∀ x ∈ l, ∀ n, Calls Try.prog 72 #[.int .i64 x, .pointer q1, .pointer q2] (w.drewN n) fun e w' => e = .returned (.bool (p x)) ∧ ∃ m, w' = (w.drewN n).drewN m) :
    Calls Try.prog 71 #[.slice A l.length c, .func (.func 72) #[] #[.pointer q1, .pointer q2]] w fun e w' => e = .returned (.bool (l.any p)) ∧ ∃ n, w' = w.drewN n := by
  have HF := hide hf
  clear hf
  go_enter Try.func71, Try.ntmps71
  go_wp2_with (go_at_call 83; refine (indexfunc_int l p q1 q2 hn _ h HF.out).mono ?_; rintro e w' ⟨r, rfl, hr, hd, n, rfl⟩; have HD := hide hd; clear hd)
  go_ret
  refine ⟨?_, n, rfl⟩
  show Ending.returned (.bool (decide (0 ≤ r))) = _
  rw [HD.out]
end Go.Proofs.Ytbobjecjopmnfaa
