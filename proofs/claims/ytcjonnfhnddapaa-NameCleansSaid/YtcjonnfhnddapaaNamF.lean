import Derived.Test.YtcjonnfhnddapaaNamE
import Derived.Deep.RegionLaw
import Derived.Lib.VarintBits
/- Quote, both. -/
namespace Go.Proofs.Ytcjonnfhnddapaa.Nam
open Go.RowKit NumP Num NamP

theorem u8info : (Try.prog.info? 5).map (fun i => (i.zero, i.size, i.bytes)) = some (some (.int .u8 0), 1, 1) := by kernel_rfl
/-- append of bytes as a step of a region that draws its order. -/
theorem stepAppend {P : Program} {w : World} {ops : Array Oper} {o : Oper} {a : Act} {K : Act → World → Prop} {Q : Exit → Act → World → Prop} {E : Prop} (hgd : o.guard = none) (s x : Operand) (t : TypeId)
    (ho : o.op = .call { callee := .builtin .append, args := #[s, x], argTypes := #[t, t] }) (e : TypeId) (ht : P.underlying t = some (.slice e))
    (hinfo : (P.info? e).map (fun i => (i.zero, i.size, i.bytes)) = some (some (.int .u8 0), 1, 1))
    (base : Nat) (v : Value) (n : Nat) (xs : List UInt8) (hs : a.eval s = v) (hown : w.ownsRow base e 1 v n (bytesV xs)) (A : Option Addr) (m c : Nat) (ys : List UInt8) (hx : a.eval x = .slice A m c) (hr : Rb w A m ys)
    (hbytes : n + m ≤ 140737488355328) (hbase : base ≤ w.heap.size)
    (h : ∀ v' w', w'.ownsRow base e 1 v' (n + m) (bytesV (xs ++ ys)) → w.grownBy w' v.ownBlock → (v'.ownBlock = v.ownBlock ∨ v'.ownBlock = some w.heap.size) → K (a.put o.dst v') w') :
    if Region.wanted o (yielded ops a.tmps) = true then Oper.wp P o a w K Q else E := by
  have hw : Region.wanted o (yielded ops a.tmps) = true := by simp [Region.wanted, hgd]
  rw [if_pos hw]
  exact wpAppend s x t ho base e (.int .u8 0) 1 1 ht hinfo rfl (by omega) v n _ hs hown A m c (bytesV ys) hx (by rw [bytesV_len, hr.len]; omega) hr.vals (bytesV_one ys) (by simp only [maxLen]; omega) (by omega) hbase (fun v' w' h1 h2 h3 => h v' w' (by rw [bytesV_append]; exact h1) h2 h3)
theorem hex_at (k : Nat) (h : k < 16) (h' : k < (ByteArray.mk #[48, 49, 50, 51, 52, 53, 54, 55, 56, 57, 65, 66, 67, 68, 69, 70]).size) : ((ByteArray.mk #[48, 49, 50, 51, 52, 53, 54, 55, 56, 57, 65, 66, 67, 68, 69, 70])[k]'h').toNat = (hx k).toNat := by
  have h1 : ∀ k : Fin 16, bt [48, 49, 50, 51, 52, 53, 54, 55, 56, 57, 65, 66, 67, 68, 69, 70] k.1 = (hx k.1).toNat := by decide +kernel
  rw [← h1 ⟨k, h⟩]
  exact at_mk [48, 49, 50, 51, 52, 53, 54, 55, 56, 57, 65, 66, 67, 68, 69, 70] k h'
theorem grow_below {w wr w2 : World} {t : TypeId} {z n : Nat} {v : Value} {xs : List Value} (B : Below w.heap.size w wr) (O : wr.ownsRow w.heap.size t z v n xs) (o : Obj) (hg : (wr.alloc o).grownBy w2 v.ownBlock) : Below w.heap.size w w2 :=
  Below.then_grown (B.alloc B.size o) (Nat.le_refl _) hg (fun j hj => (O.lt j hj).1)
theorem grow_belowD {w wr w2 : World} {t : TypeId} {z n : Nat} {v : Value} {xs : List Value} (B : Below w.heap.size w wr) (O : wr.ownsRow w.heap.size t z v n xs) (o : Obj) (hg : (wr.alloc o).drew.grownBy w2 v.ownBlock) : Below w.heap.size w w2 :=
  grow_below B O o ⟨hg.os, hg.tape, hg.output, hg.size, hg.block⟩
theorem grow_belowE {w wr w2 : World} {t : TypeId} {z n : Nat} {v : Value} {xs : List Value} (B : Below w.heap.size w wr) (O : wr.ownsRow w.heap.size t z v n xs) (o : Obj) (hg : (wr.drew.alloc o).grownBy w2 v.ownBlock) : Below w.heap.size w w2 :=
  grow_below B O o ⟨hg.os, hg.tape, hg.output, hg.size, hg.block⟩
theorem u8_and15 (x : Nat) (h : x < 256) : bits .and .u8 (x : Int) 15 = ((x % 16 : Nat) : Int) := by
  exact (bits_mask .u8 8 (by decide) wraps_u8 4 (by decide) x (by omega) (by omega)).trans (by omega)
theorem end_text {w wr : World} {l : List UInt8} {v : Value} (O : wr.ownsRow w.heap.size 5 1 v l.length (bytesV l)) : ∃ A n c, v = .slice A n c ∧ (convert 61 9 (.slice A n c)).run Try.prog wr = .ok (.string (mk l)) wr := by
  obtain ⟨A, c, rfl, _⟩ := own_slice O
  exact ⟨A, _, c, rfl, run_bytesString (P := Try.prog) (dst := 9) Try.underlying61 Try.underlying5 Try.underlying9 (Rb.of_own O) c⟩
set_option maxHeartbeats 2000000 in
theorem quoteW (w : World) (l : List UInt8) (hl : l.length ≤ 10000) :
    Calls Try.prog 44 #[.string (mk l)] w fun e w' => e = .returned (.string (mk (quote l))) ∧ Below w.heap.size w w' := by
  have hsz := mk_size l
  have hat := at_mk l
  obtain ⟨s, HSS⟩ : ∃ s, Hid (mk l = s) := ⟨_, Lib.hid rfl⟩
  rw [HSS.out] at hsz hat ⊢
  rw [← hsz] at hl
  have HSZ := Lib.hid hsz
  have HAT := Lib.hid hat
  clear hat hsz
  have HQ := Lib.hid (quote_len l)
  go_enter Try.func44, Try.ntmps44
  go_wp2
  go_loopw [3, 8] (fun v i wr => ∃ (k : Nat), k ≤ s.size ∧ i = .int .i64 k ∧ wr.ownsRow w.heap.size 5 1 v (quote (l.take k)).length (bytesV (quote (l.take k))) ∧ Below w.heap.size w wr) (fun _ i _ => s.size - (intOf i).toNat)
  case atStart => exact ⟨0, by omega, rfl, by simpa [quote, bytesV] using World.ownsRow_nil _ _ _ _, Below.refl _ _⟩
  case round =>
    obtain ⟨k, hk, rfl, ho, hb⟩ := hrel
    have O := Lib.hid ho
    have B := Lib.hid hb
    clear ho hb
    by_cases hp : k < s.size
    · have hq : (k : Int) < (s.size : Int) := by omega
      have hck := HAT.out k hp
      have hkl : k < l.length := by rw [← HSZ.out]; exact hp
      have HT : Hid (quote (l.take (k + 1)) = quote (l.take k) ++ NamP.one (nth l k)) := Lib.hid (by rw [take_nth l k hkl, quote_snoc])
      have hbn : bt l k = (nth l k).toNat := by rw [nth_get l k hkl, bt_get l k hkl]
      rw [hbn] at hck
      have hlen : (quote (l.take k)).length ≤ 30000 := by have := quote_len (l.take k); rw [List.length_take] at this; omega
      generalize quote (l.take k) = q at *
      generalize nth l k = c at *
      have HP := Lib.hid (fun W => plain W c.toNat)
      have hcb := UInt8.toNat_lt c
      by_cases hpl : pl c.toNat = true
      · rw [hpl] at HP
        have h1 : NamP.one c = [c] := by rw [NamP.one, if_pos hpl]
        go_wp2_with fail
        refine (HP.out _).mono ?_
        rintro e w1 ⟨rfl, rfl⟩
        go_wp2_with (refine appendBytes rfl (.tmp 16) (.tmp 18) 61 rfl 5 Try.underlying61 u8info w.heap.size u3 _ q rfl (O.out.alloc _) _ 1 1 [c] rfl (Rb.new _ _ _ [c] (by simp) (by simp [bytesV]) 1 rfl) (by omega) (by have := B.out.size; simp; omega) ?_; intro v2 w2 ho2 hg2 hat2)
        go_roundw
        case rel =>
          refine ⟨k + 1, by omega, by go_num, ?_, grow_below B.out O.out _ hg2⟩
          rw [HT.out, h1, List.length_append]
          exact ho2
        case measure => simp [intOf]; omega
      · have h1 : NamP.one c = [37, hx (c.toNat / 16), hx (c.toNat % 16)] := by rw [NamP.one, if_neg hpl]
        have H1 := Lib.hid h1
        rw [show pl c.toNat = false by simpa using hpl] at HP
        have hand := u8_and15 c.toNat hcb
        have hr1 : c.toNat / 16 < 16 := by omega
        have hr2 : c.toNat % 16 < 16 := by omega
        have hx1 := hex_at (c.toNat / 16) hr1
        have hx2 := hex_at (c.toNat % 16) hr2
        have hsh : (c.toNat : Int) / 16 = ((c.toNat / 16 : Nat) : Int) := by omega
        have hi1 : ((c.toNat / 16 : Nat) : Int) < 16 := by omega
        have hi2 : ((c.toNat % 16 : Nat) : Int) < 16 := by omega
        have hexz : (ByteArray.mk #[48, 49, 50, 51, 52, 53, 54, 55, 56, 57, 65, 66, 67, 68, 69, 70]).size = 16 := rfl
        clear h1
        generalize c.toNat / 16 = r at *
        generalize c.toNat % 16 = y at *
        generalize hx r = a at *
        generalize hx y = b at *
        go_wp2_with fail
        refine (HP.out _).mono ?_
        rintro e w1 ⟨rfl, rfl⟩
        go_wp2_with fail
        go_region_law (refine stepAppend rfl (.tmp 20) (.tmp 27) 61 rfl 5 Try.underlying61 u8info w.heap.size u3 _ q rfl (O.out.alloc _) _ 3 3 [37, a, b] rfl (Rb.new _ _ _ [37, a, b] (by simp) (by simp [bytesV]) 3 rfl) (by omega) (by have := B.out.size; simp; omega) ?_; intro v2 w2 ho2 hg2 hat2)
        all_goals
          go_wp2
          go_roundw
          case rel =>
            refine ⟨k + 1, by omega, by go_num, ?_, grow_belowD B.out O.out _ hg2⟩
            rw [HT.out, H1.out, List.length_append]
            exact ho2
          case measure => simp [intOf]; omega
    · obtain rfl : k = s.size := by omega
      have hall : l.take s.size = l := by rw [HSZ.out, List.take_length]
      have HO : Hid (wr.ownsRow w.heap.size 5 1 u3 (quote l).length (bytesV (quote l))) := Lib.hid (by have := O.out; rwa [hall] at this)
      clear hall O
      generalize hql : quote l = q at *
      have HQL := Lib.hid hql
      clear hql
      obtain ⟨A, n, c, rfl, he⟩ := end_text HO.out
      go_wp2
      go_ret
      exact ⟨by rw [HQL.out]; rfl, B.out⟩
end Go.Proofs.Ytcjonnfhnddapaa.Nam
