import Derived.Test.YtpdnedgoldjghaaNumP
import Derived.Test.YtpdnedgoldjghaaCore
/- Plain words on stamps. No program here. -/
namespace Go.Proofs.Ytpdnedgoldjghaa.StmP
open Go NumP

def right (t r : Int) : Bool := decide (1 ≤ t ∧ t ≤ 281474976710656 ∧ 0 ≤ r ∧ r ≤ 63)
def resv (t r : Int) : Bool := decide (t = 0 ∧ 0 ≤ r ∧ r ≤ 2)
def may (t r : Int) : Bool := right t r || resv t r
def less (t r u q : Int) : Bool := decide (t < u ∨ t = u ∧ r < q)
def stT (t r : Int) : List UInt8 := digs t.toNat ++ 46 :: digs r.toNat
def good (l : List UInt8) (i : Nat) : Bool := decide (bt l i = 46) && okN (l.take i) && okN (l.drop (i + 1)) && may (numV (l.take i)) (numV (l.drop (i + 1)))
/-- What a text is parsed as. -/
def prs (l : List UInt8) : Nat × Nat × Bool :=
  match (List.range l.length).find? (good l) with
  | some i => (numV (l.take i), numV (l.drop (i + 1)), true)
  | none => (0, 0, false)
theorem prs_at (l : List UInt8) (k : Nat) (hk : k < l.length) (hg : good l k = true) (hb : ∀ j, j < k → good l j = false) : prs l = (numV (l.take k), numV (l.drop (k + 1)), true) := by
  have : (List.range l.length).find? (good l) = some k := by
    rw [List.find?_range_eq_some]
    exact ⟨hg, by simpa using hk, fun j hj => by simp [hb j hj]⟩
  rw [prs, this]
theorem prs_no (l : List UInt8) (hb : ∀ j, j < l.length → good l j = false) : prs l = (0, 0, false) := by
  have : (List.range l.length).find? (good l) = none := by
    rw [List.find?_eq_none]
    intro j hj
    simp [hb j (by simpa using hj)]
  rw [prs, this]
theorem good_dot (l : List UInt8) (i : Nat) (h : bt l i ≠ 46) : good l i = false := by simp [good, h]
theorem okN_all (l : List UInt8) (h : okN l = true) : allD l = true := by
  simp only [okN, Bool.and_eq_true] at h
  exact h.2
/-- A dot ahead: no stamp. -/
theorem good_far (l : List UInt8) (i j : Nat) (hij : i < j) (hj : j < l.length) (h : bt l i = 46) : good l j = false := by
  have : okN (l.take j) = false := by
    rw [Bool.eq_false_iff]
    intro ho
    have ha := okN_all _ ho
    have hl : i < (l.take j).length := by simp; omega
    have h2 := List.all_eq_true.1 ha (l.take j)[i] (List.getElem_mem hl)
    rw [← bt_get _ i hl, bt_take l j i hij, h] at h2
    exact absurd h2 (by decide)
  simp [good, this]
theorem prs_text (t r : Int) (h : may t r = true) : prs (stT t r) = (t.toNat, r.toNat, true) := by
  have hb : 0 ≤ t ∧ t ≤ 281474976710656 ∧ 0 ≤ r ∧ r ≤ 63 := by
    simp only [may, right, resv, Bool.or_eq_true, decide_eq_true_eq] at h
    omega
  obtain ⟨h1, h2⟩ := okN_digs t.toNat (show t.toNat < 10 ^ 18 by omega)
  obtain ⟨h3, h4⟩ := okN_digs r.toNat (show r.toNat < 10 ^ 18 by omega)
  have e1 : (stT t r).take (digs t.toNat).length = digs t.toNat := by simp [stT]
  have e2 : (stT t r).drop ((digs t.toNat).length + 1) = digs r.toNat := by
    rw [stT, ← List.drop_drop, List.drop_left]; rfl
  have hk : (digs t.toNat).length < (stT t r).length := by simp [stT]
  have hd : bt (stT t r) (digs t.toNat).length = 46 := by
    rw [bt_get _ _ hk]
    simp [stT]
  have hg : good (stT t r) (digs t.toNat).length = true := by
    rw [good, e1, e2, hd, h1, h3, h2, h4, Int.toNat_of_nonneg hb.1, Int.toNat_of_nonneg hb.2.2.1, h]
    rfl
  rw [prs_at _ _ hk hg ?_, e1, e2, h2, h4]
  intro j hj
  refine good_dot _ _ fun e => ?_
  have hl : j < (stT t r).length := by omega
  have h5 := List.all_eq_true.1 (okN_all _ h1) (digs t.toNat)[j] (List.getElem_mem hj)
  have h6 : (stT t r)[j] = (digs t.toNat)[j] := by simp only [stT]; rw [List.getElem_append_left hj]
  rw [bt_get _ _ hl, h6] at e
  rw [e] at h5
  exact absurd h5 (by decide)
end Go.Proofs.Ytpdnedgoldjghaa.StmP
