import Derived.Test.YtpdnedgoldjghaaWirA
/- The writer's Text and Bytes, Clone, Open. -/
namespace Go.Proofs.Ytpdnedgoldjghaa.Wir
open Go.RowKit WirP

theorem run_appendStr {P : Program} {w : World} (base : Nat) (t u ty e : TypeId) (i : TypeInfo) (ht : P.underlying t = some (.slice e)) (hu : P.underlying u = some .string) (hi : P.info? e = some i) (hz : i.zero = some (.int .u8 0)) (hsize : i.size = 1) (hby : i.bytes = 1)
    (v : Value) (n : Nat) (xs : List Value) (hown : w.ownsRow base e 1 v n xs) (s : ByteArray) (hbytes : n + s.size ≤ 100000000000) (hbase : base ≤ w.heap.size) :
    ∃ v' w', (Builtin.append_ #[t, u] ty #[v, .string s]).run P w = .ok v' w' ∧ w'.ownsRow base e 1 v' (n + s.size) (xs ++ Lib.strCells s) ∧ w.grownBy w' v.ownBlock ∧ (v'.ownBlock = v.ownBlock ∨ v'.ownBlock = some w.heap.size) := by
  obtain ⟨v', w', hr, h2, h3, h4⟩ := Lib.run_append_own_string (P := P) w base t u ty e i ht hu hi hz hsize hby v n xs hown s (by simp only [maxLen]; omega) (by omega) hbase
  refine ⟨v', w', hr, h2, h3, ?_⟩
  have hxl : xs.length = n := by simpa using hown.1
  rcases hown.2 with ⟨rfl, h0⟩ | ⟨g, cap, cur, rfl, hbg, hg, hnc, hcm, hcs, htake⟩
  · by_cases hm : s.size = 0
    · left; rw [h4.2 ⟨rfl, hm⟩]
    · right
      have hr2 := run_append_nil_string (P := P) w t u ty e i (.int .u8 0) ht hu hi hz s (by omega) (by omega) (by rw [hby]; omega)
      rw [hr] at hr2
      injection hr2 with e1 e2
      rw [e1]; rfl
  · by_cases hroom : n + s.size ≤ cap
    · left
      have hcs' : cur.size = cap := by simpa using hcs
      have hr2 := Lib.run_append_room_string (P := P) w t u ty e i ht hu hi hsize g n cap cur hg s hroom (by omega)
      rw [hr] at hr2
      injection hr2 with e1 e2
      rw [e1]; rfl
    · right
      have holds : ∀ j u, xs[j]? = some u → w.cell? ((⟨g, 0, none⟩ : Addr).add j) = some u := hown.cells (g := g) rfl
      have hr2 := Lib.run_append_grow_string (P := P) w t u ty e i (.int .u8 0) ht hu hi hz ⟨g, 0, none⟩ n cap xs (by rw [hsize]; simpa using hxl) holds s (by omega) (by omega) (by rw [hby]; exact growslice_fits (by omega) (by omega))
      rw [hr] at hr2
      injection hr2 with e1 e2
      rw [e1]; rfl
/-- append of a text's bytes: t is []byte's number, e byte's, u string's. -/
theorem appendStr {P : Program} {w : World} {ops : Array Oper} {rest : List Oper} {o : Oper} {a : Act} {Q : Exit → Act → World → Prop} (hgd : o.guard = none) (s x : Operand) (t u : TypeId)
    (ho : o.op = .call { callee := .builtin .append, args := #[s, x], argTypes := #[t, u] }) (e : TypeId) (ht : P.underlying t = some (.slice e)) (hu : P.underlying u = some .string)
    (hinfo : (P.info? e).map (fun i => (i.zero, i.size, i.bytes)) = some (some (.int .u8 0), 1, 1))
    (base : Nat) (v : Value) (n : Nat) (xs : List UInt8) (hs : a.eval s = v) (hown : w.ownsRow base e 1 v n (bytesV xs)) (ys : List UInt8) (hx : a.eval x = .string ⟨ys.toArray⟩)
    (hbytes : n + ys.length ≤ 100000000000) (hbase : base ≤ w.heap.size)
    (h : ∀ v' w', w'.ownsRow base e 1 v' (n + ys.length) (bytesV (xs ++ ys)) → w.grownBy w' v.ownBlock → (v'.ownBlock = v.ownBlock ∨ v'.ownBlock = some w.heap.size) → wpList P ops Q rest (a.put o.dst v') w') :
    wpList P ops Q (o :: rest) a w := by
  obtain ⟨i, hi, hzz⟩ := Option.map_eq_some_iff.1 hinfo
  simp only [Prod.mk.injEq] at hzz
  obtain ⟨hz0, hz1, hz2⟩ := hzz
  refine wpList_plain hgd fun K hK => ?_
  obtain ⟨v', w', hr, h2, h3, h4⟩ := run_appendStr (P := P) base t u o.type e i ht hu hi hz0 hz1 hz2 v n _ hown ⟨ys.toArray⟩ hbytes hbase
  unfold Oper.wp execOp
  simp only [ho, resolve, invoke, builtin, Sem.run_bind, Sem.run_pure, Result.andThen_ok, List.map_toArray, List.map_cons, List.map_nil, hs, hx, hr]
  exact hK _ _ (h v' w' (by rw [bytesV_append]; exact h2) h3 h4)
def tx (l : List UInt8) : ByteArray := ⟨l.toArray⟩
theorem textNil (w : World) (x : List UInt8) : Calls Try.prog 59 #[.pointer none, .string (tx x)] w fun e w' => e = .returned (.tuple #[]) ∧ w = w' := by
  have HN := Lib.hid numNil
  go_enter Try.func59, Try.ntmps59
  go_wp2_with fail
  refine (HN.out _ _).mono ?_
  rintro e w1 ⟨rfl, rfl⟩
  go_wp2
  refine bodyPost_end (results_none rfl _ _ _) rfl ?_
  exact ⟨rfl, rfl⟩
set_option maxHeartbeats 1000000 in
theorem textW (w : World) (B p : Nat) (v : Value) (l x : List UInt8) (h : Wr w B p v l) (hl : l.length ≤ 1000000) (hx : x.length ≤ 1000000) (hB : B ≤ w.heap.size) :
    Calls Try.prog 59 #[.pointer (some ⟨p, 0, none⟩), .string (tx x)] w fun e w' => e = .returned (.tuple #[]) ∧ Put w w' B p v l (encN x.length ++ x) := by
  have HW := Lib.hid h
  have hsz : (tx x).size = x.length := rfl
  have HN := Lib.hid (numW w B p v l h (by omega) (x.length : Int) (by omega) (by omega) hB)
  have hel := encN_len x.length
  clear h
  go_enter Try.func59, Try.ntmps59
  go_wp2_with fail
  refine HN.out.mono ?_
  rintro e w1 ⟨rfl, v1, hw1, hf1, ht1⟩
  rw [Int.toNat_natCast] at hw1
  have HW1 := Lib.hid hw1
  have HF1 := Lib.hid hf1
  have HT1 : Hid (Turned w v v1) := Lib.hid ht1
  have hs1 := hf1.size
  have c0 : w1.cell? ⟨p, 0, none⟩ = some v1 := by rw [hw1.bk.cell]; rfl
  generalize hen : encN x.length = en at *
  have HEN := Lib.hid hen
  clear hen
  have HOWN : Hid (w1.ownsRow B 5 1 v1 (l.length + en.length) (bytesV (l ++ en))) := Lib.hid (by rw [← List.length_append]; exact hw1.own)
  clear hw1 hf1 ht1
  go_wp2_with (refine appendStr rfl (.tmp 14) (.tmp 15) 52 9 rfl 5 Try.underlying52 Try.underlying9 u8info B v1 (l.length + en.length) (l ++ en) rfl HOWN.out x rfl (by omega) (by omega) ?_
               intro v2 w2 ho2 hg2 hat2
               obtain ⟨A2, cap2, rfl, hc2⟩ := own_slice ho2
               have c2 := Wr.cell_of' HW1.out hg2
               have f2 := Wr.free_of' HW1.out hg2)
  have hst := HW1.out.step (x := x) (Nat.le_refl _) (fun i hi => rfl) (by rw [List.length_append]; exact ho2) hg2 hat2 ⟨rfl, rfl, rfl⟩
  have hp := Put.then HF1.out HT1.out hst
  refine bodyPost_end (results_none rfl _ _ _) rfl ?_
  rw [HEN.out]
  exact ⟨rfl, hp⟩
theorem cloneB (w : World) (A : Option Addr) (n c : Nat) (l : List UInt8) (h : Rb w A n l) (hn : n ≤ 100000000000) :
    Calls Try.prog 66 #[.slice A n c] w fun e w' => ∃ v, e = .returned v ∧ w'.ownsRow w.heap.size 5 1 v n (bytesV l) ∧ Below w.heap.size w w' := by
  have H := Lib.hid h
  clear h
  cases A with
  | none =>
    have h0 : n = 0 := by
      rcases Nat.eq_zero_or_pos n with h0 | h0
      · exact h0
      · obtain ⟨ad, e, _⟩ := H.out.2.2 h0; cases e
    subst h0
    have hl : l = [] := List.eq_nil_of_length_eq_zero H.out.len
    subst hl
    have he : ∀ w : World, (binOp .eql 52 (.slice none 0 c) (.slice none 0 0)).run Try.prog w = .ok (.bool true) w := fun _ => rfl
    go_enter Try.func66, Try.ntmps66
    go_wp2
    go_ret
    exact ⟨_, rfl, World.ownsRow_nil _ _ _ _, Below.refl _ _⟩
  | some ad =>
    have he : ∀ w : World, (binOp .eql 52 (.slice (some ad) n c) (.slice none 0 0)).run Try.prog w = .ok (.bool false) w := fun _ => rfl
    go_enter Try.func66, Try.ntmps66
    go_wp2_with (refine appendBytes rfl (.tmp 5) (.tmp 6) 52 rfl 5 Try.underlying52 u8info w.heap.size _ 0 [] rfl (ownEmpty _ _ _ (Nat.le_refl _)) (some ad) n c l rfl (H.out.below ((Below.refl _ _).alloc (Nat.le_refl _) _)) (by omega) (by simp) ?_; intro v2 w2 ho2 hg2 hat2)
    go_ret
    refine ⟨v2, rfl, by simpa using ho2, ?_⟩
    exact Below.then_grown ((Below.refl _ _).alloc (Nat.le_refl _) (.cells #[] 5)) (Nat.le_refl _) hg2 (fun j hj => by have hj' : w.heap.size = j := (by injection hj); omega)
theorem bytesW (w : World) (B p : Nat) (v : Value) (l : List UInt8) (h : Wr w B p v l) (hl : l.length ≤ 100000000) :
    Calls Try.prog 41 #[.pointer (some ⟨p, 0, none⟩)] w fun e w' => ∃ v', e = .returned v' ∧ w'.ownsRow w.heap.size 5 1 v' l.length (bytesV l) ∧ Below w.heap.size w w' := by
  obtain ⟨A, c, rfl, hc⟩ := own_slice h.own
  have HC := Lib.hid (cloneB w A _ c l (Rb.of_own h.own) (by omega))
  have c0 : w.cell? ⟨p, 0, none⟩ = some (.slice A l.length c) := by rw [h.bk.cell]; rfl
  clear h
  go_enter Try.func41, Try.ntmps41
  go_wp2_with fail
  refine HC.out.mono ?_
  rintro e w1 ⟨v, rfl, ho, hb⟩
  go_wp2
  go_ret
  exact ⟨v, rfl, ho, hb⟩
theorem bytesNil (w : World) : Calls Try.prog 41 #[.pointer none] w fun e w' => e = .returned (.slice none 0 0) ∧ w = w' := by
  go_enter Try.func41, Try.ntmps41
  go_wp2
  go_ret
  exact ⟨rfl, rfl⟩
theorem lenW (w : World) (B p : Nat) (v : Value) (l : List UInt8) (h : Wr w B p v l) : Calls Try.prog 42 #[.pointer (some ⟨p, 0, none⟩)] w fun e w' => e = .returned (.int .i64 (l.length : Nat)) ∧ w = w' := by
  obtain ⟨A, c, rfl, hc⟩ := own_slice h.own
  have c0 : w.cell? ⟨p, 0, none⟩ = some (.slice A l.length c) := by rw [h.bk.cell]; rfl
  clear h
  go_enter Try.func42, Try.ntmps42
  go_wp2
  go_ret
  exact ⟨rfl, rfl⟩
theorem lenNil (w : World) : Calls Try.prog 42 #[.pointer none] w fun e w' => e = .returned (.int .i64 0) ∧ w = w' := by
  go_enter Try.func42, Try.ntmps42
  go_wp2
  go_ret
  exact ⟨rfl, rfl⟩
/-- A reader at block p, that has l left, in a block that is so, and error bad. -/
def Rdr (S : Nat → Prop) (w : World) (p : Nat) (l : List UInt8) (bad : Int) : Prop := ∃ A n c, Bk w p 73 #[.slice A n c, .int .i64 bad] ∧ Rb w A n l ∧ n ≤ c ∧ ∀ ad, 0 < n → A = some ad → S ad.block
theorem openR (w : World) (A : Option Addr) (n c : Nat) (l : List UInt8) (h : Rb w A n l) (hn : n ≤ 100000000) :
    Calls Try.prog 43 #[.slice A n c] w fun e w' => ∃ p, e = .returned (.pointer (some ⟨p, 0, none⟩)) ∧ w.heap.size ≤ p ∧ Rdr (fun g => g < p) w' p l 0 ∧ Below w.heap.size w w' := by
  have HC := Lib.hid (cloneB w A n c l h (by omega))
  clear h
  go_enter Try.func43, Try.ntmps43
  go_wp2_with fail
  refine HC.out.mono ?_
  rintro e w1 ⟨v, rfl, ho, hb⟩
  obtain ⟨A1, c1, rfl, hc1⟩ := own_slice ho
  have HR := Lib.hid (Rb.of_own ho)
  have HB := Lib.hid hb
  have HS : Hid (∀ ad, 0 < n → A1 = some ad → ad.block < w1.heap.size) := Lib.hid (fun ad hn e => by
    obtain ⟨ad', e', hlt, _⟩ := HR.out.2.2 hn
    rw [e] at e'
    injection e' with e'
    rw [e']; exact hlt)
  clear ho hb
  go_wp2
  go_ret
  exact ⟨w1.heap.size, rfl, HB.out.size, ⟨A1, n, c1, Bk.new w1 _ _, HR.out.below ((Below.refl _ _).alloc (Nat.le_refl _) _), hc1, HS.out⟩, HB.out.alloc HB.out.size _⟩
end Go.Proofs.Ytpdnedgoldjghaa.Wir
