/- The walk of DeleteFunc. -/
import Derived.Test.YtbobjecjopmnfaaC8
import Derived.Deep.Light
namespace Go.Proofs.Ytbobjecjopmnfaa
open Go.RowKit
theorem Row.puts {w : World} {e : TypeId} {sz n c g o : Nat} {xs : List Value} (h : Row w e sz (.slice (some ⟨g, o, none⟩) n c) n xs) (hn : 0 < n) (j : Nat) (vs : List Value) (hj : j + vs.length ≤ n * sz) :
    Row (w.setCells g (o + j) vs) e sz (.slice (some ⟨g, o, none⟩) n c) n (xs.take j ++ vs ++ xs.drop (j + vs.length)) := by
  obtain ⟨hl, A', c', he, hnc, hr⟩ := h
  injection he with e1 _ e3
  subst e1; subst e3
  obtain ⟨g', off, cur, hA, hg, hm, hcs, ht⟩ := hr (by omega)
  injection hA with hA
  injection hA with h1 h2
  subst h1; subst h2
  have hle : n * sz ≤ c * sz := Nat.mul_le_mul_right _ hnc
  have hcs' : cur.size = off * sz + c * sz := by rw [hcs, Nat.add_mul]
  have hcl : cur.toList.length = off * sz + c * sz := by rw [Array.length_toList]; exact hcs'
  obtain ⟨cur', k1, k2, k3⟩ := setCells_row vs (off * sz + j) w cur hg (by omega)
  refine ⟨by simp only [List.length_append, List.length_take, List.length_drop]; omega, _, c, rfl, hnc, fun _ => ⟨g, off, cur', rfl, k1, hm, by rw [k2]; exact hcs, ?_⟩⟩
  rw [k3, ← ht]
  apply List.ext_getElem?
  intro q
  simp only [List.getElem?_take, List.getElem?_drop, List.getElem?_append, List.length_append, List.length_take, List.length_drop]
  repeat' split
  all_goals first | rfl | (exfalso; omega) | (congr 1; omega) | (rw [List.getElem?_eq_none (by omega)]; try rw [List.getElem?_eq_none (by omega)])
theorem cells_set (l : List Ev) (i : Nat) (x : Ev) (hi : i < l.length) : (cells l).take (i * 4) ++ x.cs ++ (cells l).drop (i * 4 + x.cs.length) = cells (l.set i x) := by
  have h : i * 4 + x.cs.length = (i + 1) * 4 := by simp [Ev.cs]; omega
  rw [h, cells_take, cells_drop, List.set_eq_take_append_cons_drop, if_pos hi, cells_append, cells_cons, List.append_assoc]
theorem Row.put {w : World} {e : TypeId} {c g o n : Nat} {l : List Ev} (h : Row w e 4 (.slice (some ⟨g, o, none⟩) n c) n (cells l)) (hl : l.length = n) (i : Nat) (x : Ev) (hi : i < l.length) :
    Row ((((w.setCell ⟨g, o + i * 4, none⟩ (.int .u8 x.k)).setCell ⟨g, o + i * 4 + 1, none⟩ (.string x.nm)).setCell ⟨g, o + i * 4 + 2, none⟩ (.int .i64 x.ar)).setCell ⟨g, o + i * 4 + 3, none⟩ (.int .i64 x.pl)) e 4 (.slice (some ⟨g, o, none⟩) n c) n (cells (l.set i x)) := by
  subst hl
  have h1 := h.puts (by omega) (i * 4) x.cs (by simp [Ev.cs]; omega)
  rw [cells_set l i x hi] at h1
  exact h1
section
variable {P : Program}
/-- clear(s[i:]): what stands ahead stays. -/
theorem run_clear_row (w : World) (t ty e : TypeId) (z : Value) (sz bytes : Nat) (ht : P.underlying t = some (.slice e)) (hinfo : (P.info? e).map (fun i => (i.zero, i.size, i.bytes)) = some (some z, sz, bytes))
    (hzs : z.cells.size = sz) (hz1 : ∀ u ∈ z.cells.toList, u.oneCell' = true) (hsz : 0 < sz) {A : Option Addr} {n c m : Nat} {xs : List Value} (h : Row w e sz (.slice A n c) n xs) (hm : m ≤ n) :
    ∃ w', (Builtin.clear_ #[t] ty #[.slice (if c = m then A else A.map (·.add (m * sz))) (n - m) (c - m)]).run P w = .ok (.tuple #[]) w' ∧ Row w' e sz (.slice A m c) m (xs.take (m * sz)) ∧ Only (Fp (.slice A n c)) w w' := by
  obtain ⟨i0, hi, hzz⟩ := Option.map_eq_some_iff.1 hinfo
  simp only [Prod.mk.injEq] at hzz
  obtain ⟨hz0, hz1', hz2⟩ := hzz
  rcases Nat.eq_zero_or_pos (n - m) with h0 | h0
  · refine ⟨w, ?_, (h.take hm).1, Only.refl _ _⟩
    rw [h0]
    cases (if c = m then A else A.map (·.add (m * sz))) <;> simp [Builtin.clear_, run_underlying ht]
  · obtain ⟨_, A', c', he, hnc, -⟩ := id h
    injection he with e1 _ e3
    subst e1; subst e3
    obtain ⟨g, o, cur, rfl, hg, hfit⟩ := h.place (by omega)
    rw [if_neg (by omega)]
    have hl : (Builtin.zeroCells z.cells (n - m)).toList.length = (n - m) * sz := by rw [Array.length_toList, size_zeroCells, hzs]
    have hmul : m * sz + (n - m) * sz = n * sz := by rw [← Nat.add_mul, Nat.add_sub_cancel' hm]
    have h1 := h.puts (by omega) (m * sz) (Builtin.zeroCells z.cells (n - m)).toList (by rw [hl]; omega)
    have hmem : ∀ v ∈ (Builtin.zeroCells z.cells (n - m)).toList, v.oneCell' = true := by
      intro v hv
      simp only [Builtin.zeroCells, Array.toList_map, List.mem_map] at hv
      obtain ⟨q, _, rfl⟩ := hv
      have hlt : q % z.cells.size < z.cells.size := Nat.mod_lt _ (by omega)
      apply hz1
      rw [getElem!_pos z.cells (q % z.cells.size) hlt]
      simp
    have hst := run_storeCells_cells (P := P) g (o + m * sz) (Builtin.zeroCells z.cells (n - m)).toList 0 w (fun j hj => by rw [cell_of_row w g _ cur e (0, 0) hg]; simp; omega) (fun j _ => blk_frozen hg _) hmem
    simp only [Nat.add_zero] at hst
    refine ⟨w.setCells g (o + m * sz) (Builtin.zeroCells z.cells (n - m)).toList, ?_, ?_, ?_⟩
    · show (Builtin.clear_ #[t] ty #[.slice (some ((⟨g, o, none⟩ : Addr).add (m * sz))) (n - m) (c - m)]).run P w = _
      rw [add_at]
      obtain ⟨q, hq⟩ : ∃ q, n - m = q + 1 := ⟨n - m - 1, by omega⟩
      rw [hq] at hst ⊢
      simp [Builtin.clear_, run_underlying ht, zeroValue, typeInfo, hi, hz0, hst]
    · have h2 := (h1.take hm).1
      have hxl : m * sz ≤ xs.length := by rw [h.1]; exact Nat.mul_le_mul_right _ hm
      rw [List.append_assoc, List.take_append_of_le_length (by rw [List.length_take]; omega), List.take_take, Nat.min_self] at h2
      exact h2
    · obtain ⟨s1, s2, s3, s4⟩ := setCells_same g (Builtin.zeroCells z.cells (n - m)).toList (o + m * sz) w
      exact ⟨s1, s2, s3, by rw [s4]; exact Nat.le_refl _, fun k _ hk => setCells_far _ _ k (fun he => hk ⟨_, _, _, rfl, by omega, he.symm⟩)⟩

theorem wp_clear_row (w : World) {o : Oper} {a : Act} {K : Act → World → Prop} {Q : Exit → Act → World → Prop} (x : Operand) (t e : TypeId)
    (ho : o.op = .call { callee := .builtin .clear, args := #[x], argTypes := #[t] }) (z : Value) (sz bytes : Nat)
    (ht : P.underlying t = some (.slice e)) (hinfo : (P.info? e).map (fun i => (i.zero, i.size, i.bytes)) = some (some z, sz, bytes))
    (hzs : z.cells.size = sz) (hz1 : ∀ u ∈ z.cells.toList, u.oneCell' = true) (hsz : 0 < sz) {A : Option Addr} {n c m : Nat} {xs : List Value} (h : Row w e sz (.slice A n c) n xs) (hm : m ≤ n)
    (hx : a.eval x = .slice (if c = m then A else A.map (·.add (m * sz))) (n - m) (c - m))
    (hk : ∀ w', Row w' e sz (.slice A m c) m (xs.take (m * sz)) → Only (Fp (.slice A n c)) w w' → K (a.put o.dst (.tuple #[])) w') : o.wp P a w K Q := by
  obtain ⟨w', hrun, h2, h3⟩ := run_clear_row (P := P) w t o.type e z sz bytes ht hinfo hzs hz1 hsz h hm
  unfold Oper.wp execOp
  simp only [ho, resolve, invoke, builtin, Sem.run_bind, Sem.run_pure, Result.andThen_ok, List.map_toArray, List.map_cons, List.map_nil, hx, hrun]
  exact hk w' h2 h3
theorem wpList_clear_row (w : World) {ops : Array Oper} {rest : List Oper} {o : Oper} {a : Act} {Q : Exit → Act → World → Prop} (hgd : o.guard = none) (x : Operand) (t e : TypeId)
    (ho : o.op = .call { callee := .builtin .clear, args := #[x], argTypes := #[t] }) (z : Value) (sz bytes : Nat)
    (ht : P.underlying t = some (.slice e)) (hinfo : (P.info? e).map (fun i => (i.zero, i.size, i.bytes)) = some (some z, sz, bytes))
    (hzs : z.cells.size = sz) (hz1 : ∀ u ∈ z.cells.toList, u.oneCell' = true) (hsz : 0 < sz) {A : Option Addr} {n c m : Nat} {xs : List Value} (h : Row w e sz (.slice A n c) n xs) (hm : m ≤ n)
    (hx : a.eval x = .slice (if c = m then A else A.map (·.add (m * sz))) (n - m) (c - m))
    (hk : ∀ w', Row w' e sz (.slice A m c) m (xs.take (m * sz)) → Only (Fp (.slice A n c)) w w' → wpList P ops Q rest (a.put o.dst (.tuple #[])) w') : wpList P ops Q (o :: rest) a w :=
  wpList_plain hgd fun _ hK => wp_clear_row w x t e ho z sz bytes ht hinfo hzs hz1 hsz h hm hx fun w' h2 h3 => hK _ _ (hk w' h2 h3)
end
/-- What the loop of DeleteFunc holds: L stands in the row; its first i are those of the first j that stay. -/
structure Del (k pl : Int) (l L : List Ev) (i j : Nat) : Prop where
  len : L.length = l.length
  hd : L.take i = (l.take j).filter (M.stays k pl)
  tl : L.drop j = l.drop j
  le : i ≤ j
theorem hit_stays (k pl : Int) (x : Ev) : M.stays k pl x = !(hit k pl x) := rfl
theorem Del.get {k pl : Int} {l L : List Ev} {i j : Nat} (h : Del k pl l L i j) (hj : j < l.length) : ∃ h' : j < L.length, L[j] = l[j] := by
  have h1 := h.len
  refine ⟨by omega, ?_⟩
  have h2 := congrArg (fun q => q[0]?) h.tl
  simp only [List.getElem?_drop, Nat.add_zero] at h2
  rw [List.getElem?_eq_getElem (by omega), List.getElem?_eq_getElem hj] at h2
  injection h2
theorem Del.drop_ {k pl : Int} {l L : List Ev} {i j : Nat} (h : Del k pl l L i j) (hj : j < l.length) (hh : hit k pl l[j] = true) : Del k pl l L i (j + 1) := by
  refine ⟨h.len, ?_, ?_, by have := h.le; omega⟩
  · rw [h.hd, List.take_succ_eq_append_getElem hj, List.filter_append]
    simp [hit_stays, hh]
  · have := congrArg (List.drop 1) h.tl
    simpa [List.drop_drop] using this
theorem Del.keep_ {k pl : Int} {l L : List Ev} {i j : Nat} (h : Del k pl l L i j) (hj : j < l.length) (hh : hit k pl l[j] = false) : Del k pl l (L.set i l[j]) (i + 1) (j + 1) := by
  have h1 := h.len
  have h2 := h.le
  refine ⟨by simpa using h1, ?_, ?_, by omega⟩
  · rw [List.take_succ_eq_append_getElem (by simp; omega), List.take_set_of_le (Nat.le_refl _), h.hd, List.take_succ_eq_append_getElem hj, List.filter_append]
    simp [hit_stays, hh]
  · have := congrArg (List.drop 1) h.tl
    rw [List.drop_set_of_lt (by omega)]
    simpa [List.drop_drop] using this
theorem Del.start {k pl : Int} : ∀ {l : List Ev} {i : Nat}, ix k pl l = i → Del k pl l l i (i + 1) ∧ i < l.length := by
  intro l
  induction l with
  | nil => intro i h; simp [ix] at h
  | cons x l ih =>
    intro i h
    simp only [ix] at h
    by_cases hx : hit k pl x = true
    · rw [if_pos hx] at h
      have hi : i = 0 := by omega
      subst hi
      exact ⟨⟨rfl, by simp [hit_stays, hx], rfl, by omega⟩, by simp⟩
    · rw [if_neg hx] at h
      by_cases h1 : ix k pl l = -1
      · rw [if_pos h1] at h; omega
      · rw [if_neg h1] at h
        obtain ⟨q, rfl⟩ : ∃ q, i = q + 1 := ⟨i - 1, by have := ix_ge k pl l; omega⟩
        obtain ⟨h2, h3⟩ := ih (i := q) (by omega)
        refine ⟨⟨rfl, ?_, rfl, by omega⟩, by simp; omega⟩
        have := h2.hd
        simp only [List.take_succ_cons, List.filter_cons, hit_stays] at this ⊢
        simp [hx, this]
theorem ix_none {k pl : Int} {l : List Ev} (h : ix k pl l = -1) : l.filter (M.stays k pl) = l := by
  induction l with
  | nil => rfl
  | cons x l ih =>
    simp only [ix] at h
    by_cases hx : hit k pl x = true
    · rw [if_pos hx] at h; omega
    · rw [if_neg hx] at h
      by_cases h1 : ix k pl l = -1
      · rw [List.filter_cons, ih h1]; simp [hit_stays, hx]
      · have := ix_ge k pl l
        rw [if_neg h1] at h; omega
theorem del_behind {w wr w3 : World} {g o c n i : Nat} {L : List Ev} (x : Ev) (HR : Row wr 31 4 (.slice (some ⟨g, o, none⟩) n c) n (cells L)) (HO : Only (fun b => b = g) w wr) (hi : i < L.length) (hn : 0 < n)
    (hb3 : Below (wr.alloc (.cells #[.int .u8 x.k, .string x.nm, .int .i64 x.ar, .int .i64 x.pl] 31)).heap.size (wr.alloc (.cells #[.int .u8 x.k, .string x.nm, .int .i64 x.ar, .int .i64 x.pl] 31)) w3) :
    w3.cell? ⟨wr.heap.size, 0, none⟩ = some (.int .u8 x.k) ∧ w3.cell? ⟨wr.heap.size, 1, none⟩ = some (.string x.nm) ∧ w3.cell? ⟨wr.heap.size, 2, none⟩ = some (.int .i64 x.ar) ∧ w3.cell? ⟨wr.heap.size, 3, none⟩ = some (.int .i64 x.pl) ∧
    w3.cell? ⟨g, o + i * 4, none⟩ = some (.int .u8 L[i].k) ∧ w3.cell? ⟨g, o + i * 4 + 1, none⟩ = some (.string L[i].nm) ∧ w3.cell? ⟨g, o + i * 4 + 2, none⟩ = some (.int .i64 L[i].ar) ∧ w3.cell? ⟨g, o + i * 4 + 3, none⟩ = some (.int .i64 L[i].pl) ∧
    (∀ q, w3.frozen? ⟨g, q, none⟩ = false) ∧ Hid (Row w3 31 4 (.slice (some ⟨g, o, none⟩) n c) n (cells L)) ∧ Hid (Only (fun b => b = g) w w3) := by
  have hbx := box_below hb3
  have hb4 : Below wr.heap.size wr w3 := below_then ((Below.refl _ _).alloc (Nat.le_refl _) _) hb3
  have h3 := HR.below hb4
  obtain ⟨r0, r1, r2, r3⟩ := h3.get i hi hn
  have hcn : 0 < c := by obtain ⟨_, _, _, he, hc, -⟩ := HR; injection he with _ _ e3; omega
  obtain ⟨g', o', cur, he, hg, _⟩ := h3.place hcn
  injection he with he
  injection he with h5 h6
  subst h5; subst h6
  exact ⟨blk_cell hbx 0, blk_cell hbx 1, blk_cell hbx 2, blk_cell hbx 3, r0, r1, r2, r3, fun q => blk_frozen hg q, h3, HO.trans (Only.of_below hb4 (fun b => b = g)) (fun b h => .inl h)⟩
set_option maxHeartbeats 2000000 in
theorem delete_any (bk bp : Nat) (k pl : Int) {A : Option Addr} {c : Nat} (l : List Ev) (w : World) (h : Row w 31 4 (.slice A l.length c) l.length (cells l)) (hn : l.length ≤ 1000)
    (h1 : w.heap[bk]? = some (.cells #[.int .u8 k] 5 (0, 0))) (h2 : w.heap[bp]? = some (.cells #[.int .i64 pl] 3 (0, 0))) :
    Calls Try.prog 62 #[.slice A l.length c, .func (.func 63) #[] #[.pointer (some ⟨bk, 0, none⟩), .pointer (some ⟨bp, 0, none⟩)]] w
      fun e w' => e = .returned (.slice A (l.filter (M.stays k pl)).length c) ∧ Row w' 31 4 (.slice A (l.filter (M.stays k pl)).length c) (l.filter (M.stays k pl)).length (cells (l.filter (M.stays k pl))) ∧ Only (Fp (.slice A l.length c)) w w' := by
  have k1 := blk_cell h1 0
  have k2 := blk_cell h2 0
  simp at k1 k2
  have hl1 := blk_lt h1
  have hl2 := blk_lt h2
  have hix := ix_ge k pl l
  by_cases hm : ix k pl l = -1
  · have H := hide h
    have HM := hide hm
    have HI := hide (index_any bk bp k pl l w h hn k1 k2)
    clear h hm hix h1 h2
    go_enter Try.func62, Try.ntmps62
    go_wp2_with (go_at_call 79; refine Calls.mono HI.out ?_; rintro e w2 ⟨rfl, hb2⟩; rw [HM.out])
    go_ret
    rw [ix_none HM.out]
    exact ⟨by simp, H.out.below hb2, Only.of_below hb2 _⟩
  · obtain ⟨i0, hi0⟩ : ∃ i0 : Nat, ix k pl l = i0 := ⟨(ix k pl l).toNat, by omega⟩
    obtain ⟨hd, hil⟩ := Del.start hi0
    have hlc : l.length ≤ c := by obtain ⟨_, _, _, he, hc, -⟩ := h; injection he with _ _ e3; omega
    have hcn : 0 < c := by omega
    obtain ⟨g, o, cur, rfl, hg, _⟩ := h.place hcn
    have hlt := blk_lt hg
    have hgk : bk ≠ g := fun e => by subst e; rw [h1] at hg; cases hg
    have hgp : bp ≠ g := fun e => by subst e; rw [h2] at hg; cases hg
    have H := hide h
    have HD := hide hd
    have HM := hide hi0
    have H1 := hide h1
    have H2 := hide h2
    have HI := hide (index_any bk bp k pl l w h hn k1 k2)
    have hi0' : ((i0 : Int) == -1) = false := by simp
    clear h hm hix h1 h2 hg hd hi0 k1 k2
    go_enter Try.func62, Try.ntmps62
    go_wp2_with (go_at_call 79; refine Calls.mono HI.out ?_; rintro e w2 ⟨rfl, hb2⟩; rw [HM.out])
    have ho2 : Only (fun b => b = g) w w2 := Only.of_below hb2 _
    have HR2 := hide (H.out.below hb2)
    have HO2 := hide ho2
    clear ho2 hb2
    go_loopw [5, 6] (fun vi vj wr => ∃ (i j : Nat) (L : List Ev), i < j ∧ j ≤ l.length ∧ vi = .int .i64 i ∧ vj = .int .i64 j ∧ Hid (Del k pl l L i j) ∧ Hid (Row wr 31 4 (.slice (some ⟨g, o, none⟩) l.length c) l.length (cells L)) ∧ Hid (Only (fun b => b = g) w wr)) (fun _ vj _ => l.length - (intOf vj).toNat)
    case atStart => exact ⟨i0, i0 + 1, l, by omega, by omega, rfl, by go_num, HD.out, HR2.out, HO2.out⟩
    case round =>
      clear HR2 HO2 HD HI HM
      obtain ⟨i, j, L, hij, hj, rfl, rfl, HD, HR, HO⟩ := hrel
      have q1 := (HO.out.block bk hl1 hgk).trans H1.out
      have q2 := (HO.out.block bp hl2 hgp).trans H2.out
      have hsz := HO.out.size
      by_cases hlt2 : j < l.length
      · obtain ⟨hj', hx⟩ := HD.out.get hlt2
        obtain ⟨x0, x1, x2, x3⟩ := HR.out.get j hj' (by omega)
        rw [hx] at x0 x1 x2 x3
        obtain ⟨x, hx'⟩ : ∃ x, x = l[j] := ⟨_, rfl⟩
        rw [← hx'] at x0 x1 x2 x3
        have HX := hide hx'
        clear hx hx'
        have p1 := cl_a (v := .int .u8 k) (blk_cell q1 0) (.cells #[.int .u8 x.k, .string x.nm, .int .i64 x.ar, .int .i64 x.pl] 31)
        have p2 := cl_a (v := .int .i64 pl) (blk_cell q2 0) (.cells #[.int .u8 x.k, .string x.nm, .int .i64 x.ar, .int .i64 x.pl] 31)
        have P1 := hide p1
        have P2 := hide p2
        clear p1 p2 q1 q2
        go_wp2_with (go_at_call 63; refine (closure_any bk bp k pl x _ P1.out P2.out).mono ?_; rintro e w3 ⟨rfl, hb3⟩; obtain ⟨b0, b1, b2, b3, r0, r1, r2, r3, fz, HR3, HO3⟩ := del_behind (i := i) x HR.out HO.out (by have := HD.out.len; omega) (by omega) hb3; clear hb3)
        · have hh : hit k pl x = false := by have h9 : (!hit k pl x) = true := (by assumption); simpa using h9
          rw [HX.out] at hh
          go_roundw
          case rel =>
            refine ⟨i + 1, j + 1, L.set i l[j], by omega, by omega, by go_num, by go_num, HD.out.keep_ hlt2 hh, ?_, ?_⟩
            · rw [← HX.out]
              exact HR3.out.put HD.out.len i x (by have := HD.out.len; omega)
            · exact (((HO3.out.setCell (.inl rfl) _).setCell (.inl rfl) _).setCell (.inl rfl) _).setCell (.inl rfl) _
          case measure => simp [intOf]; omega
        · have hh : hit k pl x = true := by have h9 : (!hit k pl x) = false := (by assumption); simpa using h9
          rw [HX.out] at hh
          go_roundw
          case rel => exact ⟨i, j + 1, L, by omega, by omega, rfl, by go_num, HD.out.drop_ hlt2 hh, HR3.out, HO3.out⟩
          case measure => simp [intOf]; omega
      · have hjl : j = l.length := by omega
        have HJ := hide hjl
        clear hjl q1 q2
        go_wp2_with (with_reducible refine wpList_clear_row _ rfl (.tmp 38) 41 31 rfl _ 4 40 Try.underlying41 info31 rfl (by decide) (by decide) HR.out (m := i) (by omega) ?hx ?_; (case hx => simp [Act.eval, add_at]; omega); intro w4 hrow4 honly4; have HR4 := hide hrow4; have HO4 := hide honly4; clear hrow4 honly4)
        all_goals
          go_ret
          have hf : l.filter (M.stays k pl) = L.take i := by
            have := HD.out.hd
            rw [HJ.out, List.take_length] at this
            exact this.symm
          have hfl : (l.filter (M.stays k pl)).length = i := by rw [hf, List.length_take]; have := HD.out.len; omega
          rw [hfl]
          refine ⟨rfl, ?_, ?_⟩
          · rw [hf, ← cells_take]
            exact HR4.out
          · refine (HO.out.trans HO4.out ?_).mono ?_
            · rintro b ⟨_, _, _, he, _, rfl⟩
              injection he with he
              injection he with he
              subst he
              exact .inl rfl
            · rintro b _ rfl
              exact ⟨_, _, _, rfl, hcn, rfl⟩
end Go.Proofs.Ytbobjecjopmnfaa
