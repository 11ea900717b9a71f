/- How great trees become, in plain Lean. -/
import Derived.Test.YtbobjecjopmnfaaK8
namespace Go.Proofs.Ytbobjecjopmnfaa
open Pt (szL sz encL enc roots encL_length roots_length enc_length shift RT)
def lenO (p : Pt) : Nat := (encO p).length
theorem lenO_RT {p : Pt} (h : RT p) : lenO p = sz p := by rw [lenO, encO_RT h, enc_length]
theorem lenO_le (p : Pt) : lenO p ≤ sz p := by
  unfold lenO encO
  split
  · simp
  · rw [enc_length]; exact Nat.le_refl _
def sumO : List Pt → Nat
  | [] => 0
  | p :: ps => lenO p + sumO ps
theorem putStep_len (op : Int) (s : List Nd × List Int) (t : List Nd) : (putStep op s t).1.length ≤ s.1.length + t.length := by
  unfold putStep
  split
  · omega
  · split
    · simp only [List.length_append, List.length_map, List.length_dropLast]
      omega
    · simp only [List.length_append, List.length_map]
      omega
theorem putFold_len (op : Int) : ∀ (ps : List Pt) (s : List Nd × List Int), ((ps.map encO).foldl (putStep op) s).1.length ≤ s.1.length + sumO ps
  | [], s => by simp [sumO]
  | p :: ps, s => by
    rw [List.map_cons, List.foldl_cons, sumO]
    have h1 := putFold_len op ps (putStep op s (encO p))
    have h2 := putStep_len op s (encO p)
    unfold lenO
    omega
theorem putT_len {op : Int} (ho : op = 1 ∨ op = 2) {ps : List Pt} (h : ∀ p ∈ ps, TN p) : lenO (putT op ps) ≤ 1 + sumO ps := by
  unfold lenO
  rw [← putR_law ho h]
  have := putFold_len op ps ([], [])
  unfold putR
  simp only
  split
  · rw [List.length_append]
    simp at this ⊢
    omega
  · simp at this
    omega
theorem sumO_RTs : ∀ {ps : List Pt}, (∀ p ∈ ps, RT p) → sumO ps = szL ps
  | [], _ => rfl
  | p :: ps, h => by rw [sumO, szL, lenO_RT (h p (.head _)), sumO_RTs fun q hq => h q (.tail _ hq)]
mutual
theorem anewT_len : ∀ (p : Pt) (off : Nat) (leaf : Int) (b : Pt), RT p → TN b → lenO (anewT off leaf b p) ≤ sz p + (if (off : Int) ≤ leaf ∧ leaf < off + sz p then lenO b else 0)
  | .mk op pl ks, off, leaf, b, h, hb => by
    rw [anewT]
    have hp := Pt.sz_pos (.mk op pl ks)
    split
    · rename_i he
      rw [if_pos (by omega)]
      omega
    · rename_i he
      rcases RT.cases h with ⟨h1, h2, rfl⟩ | ⟨h1, rfl, h3, h4⟩
      · simp only [List.length_nil, if_true]
        have := lenO_le (.mk op pl [])
        omega
      · rw [if_neg (by omega)]
        have hl := anewL_len ks off leaf b (fun q hq => (h4 q hq).1) hb
        have hp := putT_len h1 (anewL_TN ks off leaf b (fun q hq => (h4 q hq).1) hb)
        have hs : sz (.mk op 0 ks) = 1 + szL ks := by rw [sz]
        by_cases hc : (off : Int) ≤ leaf ∧ leaf < off + szL ks
        · rw [if_pos hc] at hl
          rw [if_pos (by omega)]
          omega
        · rw [if_neg hc] at hl
          rw [if_neg (by omega)]
          omega
theorem anewL_len : ∀ (ps : List Pt) (off : Nat) (leaf : Int) (b : Pt), RTs ps → TN b → sumO (anewL off leaf b ps) ≤ szL ps + (if (off : Int) ≤ leaf ∧ leaf < off + szL ps then lenO b else 0)
  | [], _, _, _, _, _ => by simp [anewL, sumO]
  | p :: ps, off, leaf, b, h, hb => by
    rw [anewL, sumO, szL]
    have h1 := anewT_len p off leaf b (h p (.head _)) hb
    have h2 := anewL_len ps (off + sz p) leaf b (fun q hq => h q (.tail _ hq)) hb
    by_cases c1 : (off : Int) ≤ leaf ∧ leaf < off + sz p
    · rw [if_pos c1] at h1
      rw [if_neg (by omega)] at h2
      rw [if_pos (by omega)]
      omega
    · rw [if_neg c1] at h1
      by_cases c2 : ((off + sz p : Nat) : Int) ≤ leaf ∧ leaf < ((off + sz p : Nat) : Int) + szL ps
      · rw [if_pos c2] at h2
        rw [if_pos (by omega)]
        omega
      · rw [if_neg c2] at h2
        rw [if_neg (by omega)]
        omega
end
mutual
/-- The numbers in a tree's row are small. -/
theorem enc_small : ∀ (p : Pt) (off : Nat), ∀ n ∈ enc off p, n.kids.length ≤ sz p ∧ ∀ k ∈ n.kids, (off : Int) ≤ k ∧ k < off + sz p
  | .mk op pl ks, off, n, hn => by
    have hs : sz (.mk op pl ks) = 1 + szL ks := by rw [sz]
    rw [enc] at hn
    rcases List.mem_append.1 hn with hn | hn
    · obtain ⟨h1, h2⟩ := encL_small ks off n hn
      exact ⟨by omega, fun k hk => by have := h2 k hk; omega⟩
    · rw [List.mem_singleton] at hn
      subst hn
      refine ⟨by show (roots off ks).length ≤ _; rw [roots_length]; have := szL_ge ks; omega, fun k hk => ?_⟩
      have := roots_lt off ks k hk
      omega
theorem encL_small : ∀ (ps : List Pt) (off : Nat), ∀ n ∈ encL off ps, n.kids.length ≤ szL ps ∧ ∀ k ∈ n.kids, (off : Int) ≤ k ∧ k < off + szL ps
  | [], _, n, hn => by cases hn
  | p :: ps, off, n, hn => by
    rw [encL] at hn
    rw [szL]
    rcases List.mem_append.1 hn with hn | hn
    · obtain ⟨h1, h2⟩ := enc_small p off n hn
      exact ⟨by omega, fun k hk => by have := h2 k hk; omega⟩
    · obtain ⟨h1, h2⟩ := encL_small ps (off + sz p) n hn
      exact ⟨by omega, fun k hk => by have := h2 k hk; omega⟩
end
theorem encO_fits {p : Pt} (h : TN p) (hl : lenO p ≤ 1000) : FitsK (encO p) := by
  refine ⟨hl, fun n hn => ?_⟩
  rcases h with rfl | h
  · cases hn
  · rw [encO_RT h] at hn
    rw [lenO_RT h] at hl
    obtain ⟨h1, h2⟩ := enc_small p 0 n hn
    exact ⟨by omega, fun k hk => by have := h2 k hk; omega⟩
theorem lenO_mem : ∀ {ps : List Pt} {p : Pt}, p ∈ ps → lenO p ≤ sumO ps
  | q :: ps, p, h => by
    rw [sumO]
    rcases List.mem_cons.1 h with rfl | h
    · omega
    · have := lenO_mem h
      omega
theorem anewL_length : ∀ (ps : List Pt) (off : Nat) (leaf : Int) (b : Pt), (anewL off leaf b ps).length = ps.length
  | [], _, _, _ => rfl
  | p :: ps, off, leaf, b => by rw [anewL, List.length_cons, anewL_length ps, List.length_cons]
theorem anewL_get : ∀ (ks : List Pt) (off j : Nat) (leaf : Int) (b p : Pt), ks[j]? = some p → (anewL off leaf b ks)[j]? = some (anewT (off + szL (ks.take j)) leaf b p)
  | [], _, _, _, _, _, h => by simp at h
  | q :: ks, off, 0, leaf, b, p, h => by
    simp at h
    subst h
    simp [anewL, szL]
  | q :: ks, off, j + 1, leaf, b, p, h => by
    rw [anewL, List.getElem?_cons_succ, anewL_get ks (off + sz q) j leaf b p (by simpa using h), List.take_succ_cons, szL, Nat.add_assoc off]
end Go.Proofs.Ytbobjecjopmnfaa
