/- The walk of PoolOnce. -/
import Derived.Test.YtbobjecjopmnfaaG3
import Derived.Test.YtbobjecjopmnfaaG7
namespace Go.Proofs.Ytbobjecjopmnfaa
open Go.RowKit
abbrev tobj (told : List Int) : Obj := .cells (told.map (Value.int .i64)).toArray 3 (0, 0)
theorem made_zero (n : Nat) : (madeCells (Value.int .i64 0).cells (n * 1)).toList = (List.replicate n (0 : Int)).map (Value.int .i64) := by
  rw [List.map_replicate, List.eq_replicate_iff]
  refine ⟨by simp [madeCells], fun b hb => ?_⟩
  simp [madeCells, Value.cells, Nat.mod_one] at hb
  exact hb.2.symm
theorem info3 : (Try.prog.info? 3).map (fun i => (i.zero, i.size, i.bytes)) = some (some (.int .i64 0), 1, 8) := by kernel_rfl
theorem told_own {w : World} {B g n : Nat} {xs : List Value} (hown : w.ownsRow B 3 1 (.slice (some ⟨g, 0, none⟩) n n) n xs) : w.heap[g]? = some (.cells xs.toArray 3 (0, 0)) := by
  obtain ⟨h1, ⟨h2, _⟩ | ⟨g', cap, cur, he, _, hh, _, _, hcs, ht⟩⟩ := hown
  · injection h2 with e1
    cases e1
  · injection he with e1 _ e3
    injection e1 with e1
    injection e1 with e1
    subst e1; subst e3
    rw [hh]
    have : cur.toList = xs := by
      rw [← ht, List.take_of_length_le (by rw [Array.length_toList, hcs]; exact Nat.le_refl _)]
    rw [← this]
theorem wpList_make_told (w : World) {ops : Array Oper} {rest : List Oper} {o : Oper} {a : Go.Act} {Q : Exit → Go.Act → World → Prop} (hg : o.guard = none) (l c : Operand) (hop : o.op = Op.makeSlice 36 l c) (n : Nat)
    (hl : a.eval l = .int .i64 n) (hc : a.eval c = .int .i64 n) (hn : n ≤ 100)
    (hK : ∀ w', w'.heap[w.heap.size]? = some (tobj (List.replicate n 0)) → Below w.heap.size w w' → wpList Try.prog ops Q rest (a.put o.dst (.slice (some ⟨w.heap.size, 0, none⟩) n n)) w') :
    wpList Try.prog ops Q (o :: rest) a w := by
  obtain ⟨i, hi, hz0, hz1, hz2⟩ := info_parts info3
  refine wpList_make_full w hg l c 36 hop w.heap.size 3 i (.int .i64 0) 1 Try.underlying36 hi hz0 hz1 .i64 .i64 _ _ n hl hc rfl rfl (by rw [hz2]; omega) (by unfold maxLen; omega) (Nat.le_refl _) ?_
  intro w' hown hgr
  rw [made_zero] at hown
  exact hK w' (told_own hown) ((Below.refl _ _).grown hgr (Nat.le_refl _) (fun k h => by cases h))
theorem Solo.made {B p G : Nat} {o : Obj} {w0 w w' : World} {m : M} {bx : List (Nat × Obj)} (D : Solo B w0 w p m bx) (hG : w'.heap[w.heap.size]? = some o) (hb : Below w.heap.size w w') (hq : G = w.heap.size) : Solo B w0 w' p m ((G, o) :: bx) := by
  obtain ⟨h0, h1, okp, hp, np, hx⟩ := D
  refine ⟨h0, h1.trans (hb.mono (Nat.le_trans h0 h1.size)), okp, hp.below hb, np, fun x hm => ?_⟩
  rcases List.mem_cons.1 hm with rfl | hm
  · exact ⟨by rw [hq]; exact hG, fun h => absurd (hp.lt _ h) (by rw [hq]; exact Nat.lt_irrefl _)⟩
  · exact ⟨(hb.block _ (blk_lt (hx x hm).1)).trans (hx x hm).1, (hx x hm).2⟩
theorem Solo.poke {B p g : Nat} {w0 w : World} {m : M} {bx cx : List (Nat × Obj)} {cs : Array Value} {t : TypeId} (D : Solo B w0 w p m bx) (hm : (g, Obj.cells cs t (0, 0)) ∈ bx) (hB : B ≤ g) (hc : ∀ x ∈ cx, x ∈ bx ∧ x.1 ≠ g) (i : Nat) (v : Value) :
    Solo B w0 (w.setCell ⟨g, i, none⟩ v) p m ((g, .cells (cs.setIfInBounds i v) t (0, 0)) :: cx) := by
  obtain ⟨h0, h1, okp, hp, np, hx⟩ := D
  have hg := hx _ hm
  have hb : ∀ b, b ≠ g → (w.setCell ⟨g, i, none⟩ v).heap[b]? = w.heap[b]? := fun b hb => Below.heap_setCell w ⟨g, i, none⟩ v b hb
  refine ⟨h0, h1.setCell hB v, okp, hp.keep (Nat.le_of_eq (World.size_setCell w ⟨g, i, none⟩ v).symm) (fun b hb' => hb b (fun e => hg.2 (e ▸ hb'))), np, fun x hm' => ?_⟩
  rcases List.mem_cons.1 hm' with rfl | hm'
  · exact ⟨blk_set hg.1 i v, hg.2⟩
  · obtain ⟨h2, h3⟩ := hc x hm'
    exact ⟨(hb _ h3).trans (hx x h2).1, (hx x h2).2⟩
theorem Solo.tell {B p g q : Nat} {w0 w : World} {m : M} {bx cx : List (Nat × Obj)} {told : List Int} (D : Solo B w0 w p m bx) (hm : (g, tobj told) ∈ bx) (hB : B ≤ g) (hc : ∀ x ∈ cx, x ∈ bx ∧ x.1 ≠ g) :
    Solo B w0 (w.setCell ⟨g, q, none⟩ (.int .i64 1)) p m ((g, tobj (told.set q 1)) :: cx) := by
  have := D.poke hm hB hc q (.int .i64 1)
  rwa [show ((told.map (Value.int .i64)).toArray.setIfInBounds q (.int .i64 1)) = ((told.set q 1).map (Value.int .i64)).toArray by simp [List.map_set]] at this
theorem Solo.told {B p g q : Nat} {w0 w : World} {m : M} {bx : List (Nat × Obj)} {told : List Int} (D : Solo B w0 w p m bx) (hm : (g, tobj told) ∈ bx) (hq : told[q]? = some 0) :
    w.cell? ⟨g, q, none⟩ = some (.int .i64 0) ∧ w.frozen? ⟨g, q, none⟩ = false ∧ g < w.heap.size := by
  have hb := D.box hm
  refine ⟨?_, blk_frozen hb q, blk_lt hb⟩
  rw [blk_cell hb q]
  simp [hq]
theorem left_of {j n : Nat} {room : Int} {D R F : List Ev} {told : List Int} {dn ot : Int} {df : Bool} (h : Inv j n ⟨room, D, R, F⟩ told dn ot df) (e : j = n) : Left n (D ++ (R ++ F)) 0 told := by
  subst e
  exact h.left
theorem Solo.rows {B p : Nat} {w0 w : World} {m : M} {bx : List (Nat × Obj)} (D : Solo B w0 w p m bx) :
    Calls Try.prog 22 #[.pointer (some ⟨p, 0, none⟩)] w fun e w' => ∃ A a B' b C c, e = .returned (.tuple #[.slice A m.D.length a, .slice B' m.R.length b, .slice C m.F.length c]) ∧ Solo B w0 w' p m bx ∧
      Hid (Rd w' (fun _ => True) 4 (.slice A m.D.length a) m.D.length (cells m.D)) ∧ Hid (Rd w' (fun _ => True) 4 (.slice B' m.R.length b) m.R.length (cells m.R)) ∧ Hid (Rd w' (fun _ => True) 4 (.slice C m.F.length c) m.F.length (cells m.F)) := by
  have D' := D
  obtain ⟨h0, h1, okp, hp, np, hx⟩ := D
  refine (rows_any w hp).mono ?_
  rintro e w' ⟨A, a, B', b, C, c, he, hb, n0, n1, n2, _⟩
  exact ⟨A, a, B', b, C, c, he, D'.below hb, n0.1.rd (fun _ _ => trivial), n1.1.rd (fun _ _ => trivial), n2.1.rd (fun _ _ => trivial)⟩
theorem Solo.room {B p : Nat} {w0 w : World} {m : M} {bx : List (Nat × Obj)} (D : Solo B w0 w p m bx) : Calls Try.prog 25 #[.pointer (some ⟨p, 0, none⟩)] w fun e w' => e = .returned (.int .i64 m.room) ∧ w' = w := by
  obtain ⟨h0, h1, okp, hp, np, hx⟩ := D
  obtain ⟨A, B, C, a, b, c, hb⟩ := hp.slices
  exact proom_any p m.room w (blk_cell hb 0)
theorem Solo.ok {B p : Nat} {w0 w : World} {m : M} {bx : List (Nat × Obj)} (D : Solo B w0 w p m bx) : m.Ok := by
  obtain ⟨h0, h1, okp, hp, np, hx⟩ := D
  exact hp.ok
theorem Solo.small {B p : Nat} {w0 w : World} {m : M} {bx : List (Nat × Obj)} (D : Solo B w0 w p m bx) : m.D.length + m.R.length + m.F.length ≤ 256 := by
  obtain ⟨h0, h1, okp, hp, np, hx⟩ := D
  exact hp.small
theorem Solo.drop {B p : Nat} {w0 w : World} {m : M} {bx cx : List (Nat × Obj)} (D : Solo B w0 w p m bx) (h : ∀ x ∈ cx, x ∈ bx) : Solo B w0 w p m cx := by
  obtain ⟨h0, h1, okp, hp, np, hx⟩ := D
  exact ⟨h0, h1, okp, hp, np, fun x hm => hx x (h x hm)⟩
set_option maxRecDepth 20000 in
set_option maxHeartbeats 16000000 in
theorem once_any {ok : Nat → Prop} {A : Option Addr} {c : Nat} (room : Int) (l : List Act) (w : World) (h : Rd w ok 5 (.slice A l.length c) l.length (acells l)) :
    Calls Try.prog 4 #[.int .i64 room, .slice A l.length c] w fun e w' => e = .returned (.bool true) ∧ Below w.heap.size w w' := by
  have H := hide h
  clear h
  go_enter Try.func4, Try.ntmps4
  go_wp2_with fail
  go_at_call 12
  refine (few_any l 100 (by omega) _ H.out).mono ?_
  rintro e w1 ⟨b, rfl, hf, hw⟩
  have hw' := hw.symm
  subst hw'
  clear hw
  cases b
  · clear hf
    go_wp2_with fail
    go_at_call 13
    refine (works_any _).mono ?_
    rintro e w2 ⟨rfl, hb2⟩
    have HB2 := hide hb2
    clear hb2
    go_wp2
    go_ret
    exact ⟨rfl, HB2.out⟩
  have hl := (hf rfl).1
  clear hf
  have S0 := hide (Solo.new room w [] (fun _ h => by cases h))
  go_wp2_with fail
  go_at_call 14
  refine (pnew_any _ _).mono ?_
  rintro e _ ⟨rfl, rfl⟩
  go_wp2_with (at_make; go_must (refine wpList_make_told _ rfl _ _ rfl l.length rfl rfl hl ?_); intro w2 hG hb2; have S2 := hide (S0.out.made (G := w.heap.size + 1) hG hb2 (World.size_alloc _ _).symm); clear hG hb2)
  go_loopw [7, 8, 9, 10] (fun sd so sf vi wr => ∃ (j : Nat) (m : M) (told : List Int) (dn ot : Int) (df : Bool), j ≤ l.length ∧ vi = .int .i64 j ∧ sd = .int .i64 dn ∧ so = .int .i64 ot ∧ sf = .bool df ∧ Hid (Inv j l.length m told dn ot df) ∧ Hid (Solo w.heap.size w wr w.heap.size m [(w.heap.size + 1, tobj told)])) (fun _ _ _ vi _ => l.length - (intOf vi).toNat)
  case atStart => exact ⟨0, _, _, -1, -1, false, Nat.zero_le _, rfl, rfl, rfl, rfl, Inv.start room l.length, S2.out⟩
  case round =>
    clear S2 S0
    obtain ⟨j, m, told, dn, ot, df, hj, rfl, rfl, rfl, rfl, I, S⟩ := hrel
    by_cases hlt2 : j < l.length
    · obtain ⟨ad, hA, hltd, x0, -⟩ := (H.out.below S.out.2.1).geta j hlt2 (by omega)
      obtain ⟨kd, hkd⟩ : ∃ kd, kd = l[j].kd := ⟨_, rfl⟩
      rw [← hkd] at x0
      subst hA
      clear hkd
      go_wp2_with fail
      go_at_call 18
      refine (pick_any kd _ 7 (by omega) (by omega)).mono ?_
      rintro e _ ⟨rfl, rfl⟩
      obtain ⟨q, hq⟩ : ∃ q, q = kd % 7 := ⟨_, rfl⟩
      rw [← hq]
      have hq7 : q = 0 ∨ q = 1 ∨ q = 2 ∨ q = 3 ∨ ((q == 0) = false ∧ (q == 1) = false ∧ (q == 2) = false ∧ (q == 3) = false) := by
        simp only [beq_eq_false_iff_ne, ne_eq]
        omega
      clear hq
      rcases hq7 with rfl | rfl | rfl | rfl | ⟨q0, q1, q2, q3⟩
      · go_wp2_with fail
        go_at_call 19
        refine (S.out.turn (fun ok hp => put_any 1 ⟨#[]⟩ 0 j _ hp)).mono ?_
        rintro e w3 ⟨rfl, d3⟩
        have S3 := hide d3
        clear d3
        go_wp2
        go_roundw
        case rel => exact ⟨j + 1, _, told, dn, ot, df, by omega, by go_num, rfl, rfl, rfl, I.out.put hlt2, S3.out⟩
        case measure => simp [intOf]; omega
      · go_wp2_with fail
        go_at_call 19
        refine (S.out.turn (fun ok hp => put_any 3 ⟨#[]⟩ 0 j _ hp)).mono ?_
        rintro e w3 ⟨rfl, d3⟩
        have S3 := hide d3
        clear d3
        go_wp2
        go_roundw
        case rel => exact ⟨j + 1, _, told, dn, ot, df, by omega, by go_num, rfl, rfl, rfl, I.out.putT hlt2, S3.out⟩
        case measure => simp [intOf]; omega
      · go_wp2_with fail
        go_at_call 20
        refine (S.out.turn (fun ok hp => defer_any 2 ⟨#[97]⟩ j 0 _ hp)).mono ?_
        rintro e w3 ⟨rfl, d3⟩
        have S3 := hide d3
        clear d3
        go_wp2
        go_roundw
        case rel => exact ⟨j + 1, _, told, dn, ot, true, by omega, by go_num, rfl, rfl, rfl, I.out.defer hlt2, S3.out⟩
        case measure => simp [intOf]; omega
      · go_wp2_with fail
        go_at_call 21
        refine (S.out.turn (fun ok hp => recall_any _ hp)).mono ?_
        rintro e w3 ⟨rfl, d3⟩
        have S3 := hide d3
        clear d3
        go_wp2
        go_roundw
        case rel => exact ⟨j + 1, _, told, dn, ot, df, by omega, by go_num, rfl, rfl, rfl, I.out.recall, S3.out⟩
        case measure => simp [intOf]; omega
      · obtain ⟨room', D, R, F⟩ := m
        go_wp2_with fail
        go_at_call 22
        refine (S.out.rows).mono ?_
        rintro e w3 ⟨B1, b1, B2, b2, B3, b3, rfl, d3, -, -, -⟩
        have S3 := hide d3
        clear d3
        have hsm := S3.out.small
        simp only at hsm
        cases D with
        | cons x D =>
          obtain ⟨q', hq1, hq2, hq3, rfl⟩ := I.out.fD _ (.head _)
          have hqn : q' < l.length := by omega
          go_wp2_with fail
          go_at_call 23
          refine (Solo.next (k := 1) (nm := ⟨#[]⟩) (ar := 0) (pl := q') S3.out rfl).mono ?_
          rintro e w4 ⟨rfl, d4⟩
          have hltg := blk_lt (d4.box (.head _))
          have S40 := hide d4
          have S4 := hide (d4.alloc (.cells #[.int .u8 1, .string ⟨#[]⟩, .int .i64 0, .int .i64 q'] 31 (0, 0)))
          clear d4
          obtain ⟨e0, e1, e2, e3⟩ := ebox (S4.out.box (.head _))
          have elt := blk_lt (S4.out.box (.head _))
          obtain ⟨t0, tf, tl⟩ := S4.out.told (.tail _ (.head _)) hq3
          have hn1 : w4.heap.size ≠ w.heap.size + 1 := by omega
          have hn2 : w.heap.size + 1 ≠ w4.heap.size := by omega
          go_wp2
          go_roundw
          case rel => exact ⟨j + 1, ⟨room', D, R, F⟩, told.set q' 1, q', ot, df, by omega, by go_num, rfl, rfl, rfl, I.out.tellD rfl rfl, ((S40.out.tell (cx := []) (.head _) (by omega) (fun x h => by cases h)).alloc _).drop (fun x h => .tail _ h)⟩
          case measure => simp [intOf]; omega
        | nil =>
          cases R with
          | cons x R =>
            obtain ⟨q', hq1, hq3, hx⟩ := I.out.fR _ (.head _)
            have hqn : q' < l.length := by omega
            have hno : df = true ∨ (df = false ∧ ot < num x) := by
              cases df
              · exact .inr ⟨rfl, (I.out.no rfl).2.2 _ (.head _)⟩
              · exact .inl rfl
            have HI := hide (I.out.tellR rfl hx)
            rcases hx with rfl | rfl
            · rcases hno with rfl | ⟨rfl, hno⟩
              · go_wp2_with fail
                go_at_call 23
                refine (Solo.next (k := 3) (nm := ⟨#[]⟩) (ar := 0) (pl := q') S3.out rfl).mono ?_
                rintro e w4 ⟨rfl, d4⟩
                have hltg := blk_lt (d4.box (.head _))
                have S40 := hide d4
                have S4 := hide (d4.alloc (.cells #[.int .u8 3, .string ⟨#[]⟩, .int .i64 0, .int .i64 q'] 31 (0, 0)))
                clear d4
                obtain ⟨e0, e1, e2, e3⟩ := ebox (S4.out.box (.head _))
                have elt := blk_lt (S4.out.box (.head _))
                obtain ⟨t0, tf, tl⟩ := S4.out.told (.tail _ (.head _)) hq3
                have hn1 : w4.heap.size ≠ w.heap.size + 1 := by omega
                have hn2 : w.heap.size + 1 ≠ w4.heap.size := by omega
                go_wp2
                go_roundw
                case rel => exact ⟨j + 1, ⟨room', [], R, F⟩, told.set q' 1, dn, q', true, by omega, by go_num, rfl, rfl, rfl, HI.out, ((S40.out.tell (cx := []) (.head _) (by omega) (fun x h => by cases h)).alloc _).drop (fun x h => .tail _ h)⟩
                case measure => simp [intOf]; omega
              · have hno' : ot < q' := by simpa [num] using hno
                clear hno
                go_wp2_with fail
                go_at_call 23
                refine (Solo.next (k := 3) (nm := ⟨#[]⟩) (ar := 0) (pl := q') S3.out rfl).mono ?_
                rintro e w4 ⟨rfl, d4⟩
                have hltg := blk_lt (d4.box (.head _))
                have S40 := hide d4
                have S4 := hide (d4.alloc (.cells #[.int .u8 3, .string ⟨#[]⟩, .int .i64 0, .int .i64 q'] 31 (0, 0)))
                clear d4
                obtain ⟨e0, e1, e2, e3⟩ := ebox (S4.out.box (.head _))
                have elt := blk_lt (S4.out.box (.head _))
                obtain ⟨t0, tf, tl⟩ := S4.out.told (.tail _ (.head _)) hq3
                have hn1 : w4.heap.size ≠ w.heap.size + 1 := by omega
                have hn2 : w.heap.size + 1 ≠ w4.heap.size := by omega
                go_wp2
                go_roundw
                case rel => exact ⟨j + 1, ⟨room', [], R, F⟩, told.set q' 1, dn, q', false, by omega, by go_num, rfl, rfl, rfl, HI.out, ((S40.out.tell (cx := []) (.head _) (by omega) (fun x h => by cases h)).alloc _).drop (fun x h => .tail _ h)⟩
                case measure => simp [intOf]; omega
            · rcases hno with rfl | ⟨rfl, hno⟩
              · go_wp2_with fail
                go_at_call 23
                refine (Solo.next (k := 2) (nm := ⟨#[97]⟩) (ar := q') (pl := 0) S3.out rfl).mono ?_
                rintro e w4 ⟨rfl, d4⟩
                have hltg := blk_lt (d4.box (.head _))
                have S40 := hide d4
                have S4 := hide (d4.alloc (.cells #[.int .u8 2, .string ⟨#[97]⟩, .int .i64 q', .int .i64 0] 31 (0, 0)))
                clear d4
                obtain ⟨e0, e1, e2, e3⟩ := ebox (S4.out.box (.head _))
                have elt := blk_lt (S4.out.box (.head _))
                obtain ⟨t0, tf, tl⟩ := S4.out.told (.tail _ (.head _)) hq3
                have hn1 : w4.heap.size ≠ w.heap.size + 1 := by omega
                have hn2 : w.heap.size + 1 ≠ w4.heap.size := by omega
                go_wp2
                go_roundw
                case rel => exact ⟨j + 1, ⟨room', [], R, F⟩, told.set q' 1, dn, q', true, by omega, by go_num, rfl, rfl, rfl, HI.out, ((S40.out.tell (cx := []) (.head _) (by omega) (fun x h => by cases h)).alloc _).drop (fun x h => .tail _ h)⟩
                case measure => simp [intOf]; omega
              · have hno' : ot < q' := by simpa [num] using hno
                clear hno
                go_wp2_with fail
                go_at_call 23
                refine (Solo.next (k := 2) (nm := ⟨#[97]⟩) (ar := q') (pl := 0) S3.out rfl).mono ?_
                rintro e w4 ⟨rfl, d4⟩
                have hltg := blk_lt (d4.box (.head _))
                have S40 := hide d4
                have S4 := hide (d4.alloc (.cells #[.int .u8 2, .string ⟨#[97]⟩, .int .i64 q', .int .i64 0] 31 (0, 0)))
                clear d4
                obtain ⟨e0, e1, e2, e3⟩ := ebox (S4.out.box (.head _))
                have elt := blk_lt (S4.out.box (.head _))
                obtain ⟨t0, tf, tl⟩ := S4.out.told (.tail _ (.head _)) hq3
                have hn1 : w4.heap.size ≠ w.heap.size + 1 := by omega
                have hn2 : w.heap.size + 1 ≠ w4.heap.size := by omega
                go_wp2
                go_roundw
                case rel => exact ⟨j + 1, ⟨room', [], R, F⟩, told.set q' 1, dn, q', false, by omega, by go_num, rfl, rfl, rfl, HI.out, ((S40.out.tell (cx := []) (.head _) (by omega) (fun x h => by cases h)).alloc _).drop (fun x h => .tail _ h)⟩
                case measure => simp [intOf]; omega
          | nil =>
            go_wp2_with fail
            go_at_call 23
            refine (Solo.next (k := 0) (nm := ⟨#[]⟩) (ar := 0) (pl := 0) S3.out rfl).mono ?_
            rintro e w4 ⟨rfl, d4⟩
            have S4 := hide (d4.alloc (.cells #[.int .u8 0, .string ⟨#[]⟩, .int .i64 0, .int .i64 0] 31 (0, 0)))
            clear d4
            go_wp2
            go_roundw
            case rel => exact ⟨j + 1, ⟨room', [], [], F⟩, told, dn, ot, df, by omega, by go_num, rfl, rfl, rfl, I.out.skip, S4.out.drop (fun x h => .tail _ h)⟩
            case measure => simp [intOf]; omega
    · have hjl : j = l.length := by omega
      obtain ⟨room', D, R, F⟩ := m
      go_wp2_with fail
      go_at_call 22
      refine (S.out.rows).mono ?_
      rintro e w3 ⟨B1, b1, B2, b2, B3, b3, rfl, d3, r0, r1, r2⟩
      have S3 := hide d3
      clear d3
      have hsm := S3.out.small
      have hfit := S3.out.ok.fits
      simp only [M.len] at hsm hfit
      have HI := hide (left_of I.out hjl)
      clear I S hjl
      go_wp2_with (first | (at_builtin; refine wpList_append_row _ rfl (.tmp 134) (.tmp 135) 41 31 rfl _ 4 40 Try.underlying41 info31 rfl (by decide) (by decide) (.slice none 0 0) 0 [] rfl (Row.nil _ _ _) (fun _ => True) _ D.length (cells D) rfl r0.out (cells_one _) (by omega) ?_; intro A4 a4 w4 hrow honly hfp; rw [Nat.zero_add, List.nil_append] at hrow; rw [Nat.zero_add] at hfp; obtain ⟨hb, hf⟩ := own_step (Below.refl _ _) (fun _ h => (Fp_none h).elim) honly hfp; have HR4 := hide hrow; have HF4 := hide hf; have HB4 := hide hb; clear hrow honly hfp hb hf) | (at_builtin; refine wpList_append_row _ rfl (.tmp 137) (.tmp 138) 41 31 rfl _ 4 40 Try.underlying41 info31 rfl (by decide) (by decide) _ _ _ rfl HR4.out (fun _ => True) _ R.length (cells R) rfl (r1.out.below HB4.out) (cells_one _) (by omega) ?_; intro A5 a5 w5 hrow honly hfp; obtain ⟨hb, hf⟩ := own_step HB4.out HF4.out honly hfp; have HR5 := hide hrow; have HF5 := hide hf; have HB5 := hide hb; clear hrow honly hfp hb hf) | (at_builtin; refine wpList_append_row _ rfl (.tmp 140) (.tmp 141) 41 31 rfl _ 4 40 Try.underlying41 info31 rfl (by decide) (by decide) _ _ _ rfl HR5.out (fun _ => True) _ F.length (cells F) rfl (r2.out.below HB5.out) (cells_one _) (by omega) ?_; intro A6 a6 w6 hrow honly hfp; obtain ⟨hb, hf⟩ := own_step HB5.out HF5.out honly hfp; have HR6 := hide hrow; have HF6 := hide hf; have HB6 := hide hb; clear hrow honly hfp hb hf))
      have hLl : (D ++ (R ++ F)).length = D.length + R.length + F.length := by simp [Nat.add_assoc]
      have HLl := hide hLl
      have hg3 := blk_lt (S3.out.box (.head _))
      have HF7 := hide HF6.out
      have S6 := hide (S3.out.below HB6.out)
      have HRL : Hid (Row w6 31 4 (.slice A6 (D.length + R.length + F.length) a6) (D.length + R.length + F.length) (cells (D ++ (R ++ F)))) := by
        rw [cells_append, cells_append, ← List.append_assoc]
        exact HR6.out
      have HG := hide (show ¬ Fp (.slice A6 (D.length + R.length + F.length) a6) (w.heap.size + 1) from fun h => absurd (HF6.out _ h) (by omega))
      clear hLl HF6 HF7 HR6 HB6 HF5 HR5 HB5 HF4 HR4 HB4 r0 r1 r2 S3 hg3
      go_loopw [21] (fun vi wr => ∃ (k : Nat) (told : List Int), k ≤ D.length + R.length + F.length ∧ vi = .int .i64 k ∧ Hid (Left l.length (D ++ (R ++ F)) k told) ∧ Hid (Solo w.heap.size w wr w.heap.size ⟨room', D, R, F⟩ [(w.heap.size + 1, tobj told)]) ∧ Hid (Row wr 31 4 (.slice A6 (D.length + R.length + F.length) a6) (D.length + R.length + F.length) (cells (D ++ (R ++ F))))) (fun vi _ => D.length + R.length + F.length - (intOf vi).toNat)
      case atStart => exact ⟨0, _, Nat.zero_le _, rfl, HI.out, S6.out, HRL.out⟩
      case round =>
        clear HI S6 HRL
        obtain ⟨k, told, hk, rfl, HT, S, HR⟩ := hrel
        by_cases hlt3 : k < D.length + R.length + F.length
        · have hkL : k < (D ++ (R ++ F)).length := by rw [HLl.out]; exact hlt3
          obtain ⟨ad, hA6, hltd, y0, y1, y2, y3⟩ := (HR.out.rd (ok := fun _ => True) (fun _ _ => trivial)).get k hkL (by omega)
          obtain ⟨q', hqn, hq3, hx⟩ := HT.out.here hkL
          obtain ⟨x, hx0⟩ : ∃ x, x = (D ++ (R ++ F))[k] := ⟨_, rfl⟩
          rw [← hx0] at y2 y3 hx
          have HN := hide (HT.out.tell hkL hx0 hx)
          obtain ⟨t0, tf, tl⟩ := S.out.told (.head _) hq3
          have HS' := hide (S.out.tell (q := q') (cx := []) (.head _) (by omega) (fun x h => by cases h))
          have HR' := hide (HR.out.setCell (p := ⟨w.heap.size + 1, q', none⟩) HG.out (.int .i64 1))
          subst hA6
          clear hx0 hkL y0 y1 hq3
          rcases hx with rfl | rfl | rfl
          all_goals
            simp only at y2 y3
            go_wp2
            go_region
            go_wp2
            go_roundw
            case rel => exact ⟨k + 1, _, by omega, by go_num, HN.out, HS'.out.drew, HR'.out⟩
            case measure => simp [intOf]; omega
        · have HD := hide (S.out.drop (cx := []) (fun x h => by cases h))
          go_wp2_with (first | ((go_at_call 24); (refine (Solo.len (n := D.length + R.length + F.length) S.out rfl).mono ?_); rintro e _ ⟨rfl, rfl⟩) | ((go_at_call 25); (refine (Solo.room S.out).mono ?_); rintro e _ ⟨rfl, rfl⟩) | ((go_at_call 13); (refine (works_any _).mono ?_); rintro e w8 ⟨rfl, hb8⟩; have HD8 := hide (HD.out.below hb8); clear hb8))
          go_ret
          exact ⟨rfl, HD8.out.2.1⟩
end Go.Proofs.Ytbobjecjopmnfaa
