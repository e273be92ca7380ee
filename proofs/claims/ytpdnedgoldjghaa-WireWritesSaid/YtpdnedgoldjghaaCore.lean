import Derived.Below
import Derived.Laws.OwnMore
import Derived.Deep.AppendLies
import Derived.Deep.Draws
import Derived.Lib.Hide
import Derived.IntWalk
import Derived.Calls
import Derived.Laws.Rows
import Derived.Deep.MidRow
import Derived.Deep.Upon
import Derived.Maps.AppendAt
import Derived.OwnWalk
import Derived.Laws.BytesArg
/- Words that all walks of this seat share: slices of bytes that are read, rows of bytes of the call's own. -/
namespace Go.Proofs.Ytpdnedgoldjghaa
open Go.RowKit

/-- Place k of a list; the walk's simp doesn't look into it. -/
def nth {α : Type} [Inhabited α] (l : List α) (k : Nat) : α := l.getD k default
theorem nth_get {α : Type} [Inhabited α] (l : List α) (k : Nat) (h : k < l.length) : nth l k = l[k] := by simp [nth, List.getD_eq_getElem?_getD, h]
theorem take_nth {α : Type} [Inhabited α] (l : List α) (k : Nat) (h : k < l.length) : l.take (k + 1) = l.take k ++ [nth l k] := by
  rw [List.take_succ_eq_append_getElem h, nth_get l k h]
/-- Byte k of a list, as a number. -/
def bt (l : List UInt8) (k : Nat) : Nat := (l.getD k 0).toNat
theorem bt_lt (l : List UInt8) (k : Nat) : bt l k < 256 := UInt8.toNat_lt _
theorem bt_get (l : List UInt8) (k : Nat) (h : k < l.length) : bt l k = l[k].toNat := by simp [bt, List.getD_eq_getElem?_getD, h]
theorem bt_take (l : List UInt8) (m k : Nat) (h : k < m) : bt (l.take m) k = bt l k := by simp [bt, List.getD_eq_getElem?_getD, List.getElem?_take, h]
theorem bt_drop (l : List UInt8) (m k : Nat) : bt (l.drop m) k = bt l (m + k) := by simp [bt, List.getD_eq_getElem?_getD]
theorem bt_ext (a b : List UInt8) (hl : a.length = b.length) (h : ∀ k, k < a.length → bt a k = bt b k) : a = b := by
  apply List.ext_getElem hl
  intro i h1 h2
  have := h i h1
  rw [bt_get a i h1, bt_get b i h2] at this
  exact UInt8.toNat_inj.1 this
theorem take_succ_u8 (l : List UInt8) (k : Nat) (h : k < l.length) : l.take (k + 1) = l.take k ++ [UInt8.ofNat (bt l k)] := by
  rw [List.take_succ_eq_append_getElem h, bt_get l k h]; simp

theorem alloc_old (w : World) (o : Obj) (i : Nat) (h : i < w.heap.size) : (w.alloc o).heap[i]? = w.heap[i]? := Below.heap_alloc w o i h
theorem ret_int {k : IntKind} {a b : Int} (h : a = b) : Ending.returned (.int k a) = .returned (.int k b) := by rw [h]
theorem ret_str {a b : ByteArray} (h : a = b) : Ending.returned (.string a) = .returned (.string b) := by rw [h]
theorem ret_bool {a b : Bool} (h : a = b) : Ending.returned (.bool a) = .returned (.bool b) := by rw [h]
/-- The bytes as values. -/
def bytesV (l : List UInt8) : List Value := l.map fun b => .int .u8 (b.toNat : Int)
theorem bytesV_len (l : List UInt8) : (bytesV l).length = l.length := by simp [bytesV]
theorem bytesV_append (a b : List UInt8) : bytesV (a ++ b) = bytesV a ++ bytesV b := by simp [bytesV]
theorem bytesV_get (l : List UInt8) (j : Nat) (h : j < l.length) : (bytesV l)[j]? = some (.int .u8 (bt l j : Int)) := by
  simp [bytesV, bt_get l j h, h]
theorem bytesV_take (l : List UInt8) (k : Nat) : bytesV (l.take k) = (bytesV l).take k := by simp [bytesV, List.map_take]
theorem bytesV_one (l : List UInt8) : ∀ u ∈ bytesV l, u.oneCell' = true := by
  intro u hu
  simp only [bytesV, List.mem_map] at hu
  obtain ⟨b, _, rfl⟩ := hu
  rfl

theorem addr_block (a : Addr) (k : Nat) : (a.add k).block = a.block := by
  cases k with
  | zero => rfl
  | succ k => simp [Addr.add]
theorem addr_add (a : Addr) (i j : Nat) : (a.add i).add j = a.add (i + j) := by
  cases i with
  | zero => simp [Addr.add]
  | succ i => cases j with
    | zero => simp [Addr.add]
    | succ j => simp [Addr.add, Nat.add_assoc, Nat.add_comm, Nat.add_left_comm]
theorem addr_plain (g j : Nat) : (⟨g, 0, none⟩ : Addr).add j = ⟨g, j, none⟩ := by
  cases j <;> simp [Addr.add]

/-- Block g holds just these cells, and all may be written. -/
def Bk (w : World) (g : Nat) (t : TypeId) (cs : Array Value) : Prop := w.heap[g]? = some (.cells cs t (0, 0))
section
variable {w w' : World} {g : Nat} {t : TypeId} {cs : Array Value}
theorem Bk.of_num {g' : Nat} (h : Bk w g t cs) (e : g = g') : Bk w g' t cs := by subst e; exact h
theorem Bk.lt (h : Bk w g t cs) : g < w.heap.size := (Array.getElem?_eq_some_iff.1 h).1
theorem Bk.cell (h : Bk w g t cs) (i : Nat) : w.cell? ⟨g, i, none⟩ = cs[i]? := cell_of_row w g i cs t (0, 0) h
theorem Bk.free (h : Bk w g t cs) (i : Nat) : w.frozen? ⟨g, i, none⟩ = false := by
  have h' : w.heap[g]? = some (.cells cs t (0, 0)) := h
  simp [World.frozen?, h']
theorem Bk.new (w : World) (t : TypeId) (cs : Array Value) : Bk (w.alloc (.cells cs t)) w.heap.size t cs := heap_alloc_new w _
theorem Bk.of_same (h : Bk w g t cs) (e : w'.heap[g]? = w.heap[g]?) : Bk w' g t cs := Eq.trans e h
theorem Bk.alloc (h : Bk w g t cs) (o : Obj) : Bk (w.alloc o) g t cs := h.of_same (heap_alloc_old w o g h.lt)
theorem Bk.set (h : Bk w g t cs) (i : Nat) (u : Value) : Bk (w.setCell ⟨g, i, none⟩ u) g t (cs.setIfInBounds i u) := by
  have h' : w.heap[g]? = some (.cells cs t (0, 0)) := h
  simp [Bk, World.setCell, Array.getElem?_modify, h']
theorem Bk.other (h : Bk w g t cs) {p : Addr} (hp : g ≠ p.block) (u : Value) : Bk (w.setCell p u) g t cs := h.of_same (Below.heap_setCell w p u g hp)
theorem Bk.below {B : Nat} (h : Bk w g t cs) (hb : Below B w w') (hg : g < B) : Bk w' g t cs := h.of_same (hb.block g hg)
theorem Bk.grown {row : Option Nat} (h : Bk w g t cs) (hb : w.grownBy w' row) (hg : some g ≠ row) : Bk w' g t cs := h.of_same (hb.block g h.lt hg)
theorem Bk.drewN (h : Bk w g t cs) (n : Nat) : Bk (w.drewN n) g t cs := h
end

/-- A slice of bytes that reads as a list; nil, empty and other ones alike. -/
def Rb (w : World) (A : Option Addr) (n : Nat) (l : List UInt8) : Prop :=
  l.length = n ∧ n ≤ 9223372036854775807 ∧ (0 < n → ∃ ad, A = some ad ∧ ad.block < w.heap.size ∧ ∀ j, j < n → w.cell? (ad.add j) = some (.int .u8 (bt l j : Int)))
section
variable {w w' : World} {A : Option Addr} {n : Nat} {l : List UInt8}
theorem Rb.len (h : Rb w A n l) : l.length = n := h.1
theorem Rb.bound (h : Rb w A n l) : n ≤ 9223372036854775807 := h.2.1
theorem Rb.at_ (h : Rb w A n l) {k : Nat} (hk : k < n) : ∃ ad, A = some ad ∧ w.cell? (ad.add k) = some (.int .u8 (bt l k : Int)) := by
  obtain ⟨ad, e, _, hc⟩ := h.2.2 (by omega)
  exact ⟨ad, e, hc k hk⟩
theorem Rb.nil_ (w : World) : Rb w none 0 [] := ⟨rfl, by omega, fun h => absurd h (by omega)⟩
theorem Rb.below (h : Rb w A n l) (hb : Below w.heap.size w w') : Rb w' A n l :=
  ⟨h.1, h.2.1, fun hn => by
    obtain ⟨ad, e, hlt, hc⟩ := h.2.2 hn
    exact ⟨ad, e, Nat.lt_of_lt_of_le hlt hb.size, fun j hj => (hb.cell (by rw [addr_block]; exact hlt)).trans (hc j hj)⟩⟩
/-- It lies in another block than the one that turns. -/
theorem Rb.grown (h : Rb w A n l) {row : Option Nat} (hg : w.grownBy w' row) (hne : ∀ ad, A = some ad → some ad.block ≠ row) : Rb w' A n l :=
  ⟨h.1, h.2.1, fun hn => by
    obtain ⟨ad, e, hlt, hc⟩ := h.2.2 hn
    exact ⟨ad, e, Nat.lt_of_lt_of_le hlt hg.size, fun j hj => (World.cell?_of_block (hg.block _ (by rw [addr_block]; exact hlt) (by rw [addr_block]; exact hne ad e))).trans (hc j hj)⟩⟩
theorem Rb.of_own {base : Nat} {e : TypeId} {c : Nat} (h : w.ownsRow base e 1 (.slice A n c) n (bytesV l)) : Rb w A n l := by
  have hl : l.length = n := by have := h.1; rw [bytesV_len] at this; omega
  have hm : n ≤ 9223372036854775807 := by
    rcases h.2 with ⟨_, h1⟩ | ⟨g', cap', cur, he, _, _, h1, h2, _⟩
    · omega
    · simp only [maxLen] at h2
      omega
  refine ⟨hl, hm, fun hn => ?_⟩
  obtain ⟨g, cap, hv, _, hlt⟩ := h.form hn
  have hA : A = some ⟨g, 0, none⟩ := by injection hv
  subst hA
  exact ⟨_, rfl, hlt, fun j hj => h.cells (g := g) rfl j _ (bytesV_get l j (by omega))⟩
theorem Rb.take_ (h : Rb w A n l) {k : Nat} (hk : k ≤ n) : Rb w A k (l.take k) :=
  ⟨by rw [List.length_take, h.1]; omega, by have := h.2.1; omega, fun hn => by
    obtain ⟨ad, e, hlt, hc⟩ := h.2.2 (by omega)
    exact ⟨ad, e, hlt, fun j hj => by rw [bt_take _ _ _ hj]; exact hc j (by omega)⟩⟩
theorem Rb.cut (h : Rb w A n l) {k cap : Nat} (hk : k ≤ n) (hc : n ≤ cap) : Rb w (if cap = k then A else A.map (·.add k)) (n - k) (l.drop k) := by
  refine ⟨by rw [List.length_drop, h.1], by have := h.2.1; omega, fun hn => ?_⟩
  · obtain ⟨ad, e, hlt, hcell⟩ := h.2.2 (by omega)
    rw [if_neg (by omega), e]
    exact ⟨ad.add k, rfl, by rw [addr_block]; exact hlt, fun j hj => by rw [addr_add, bt_drop]; exact hcell _ (by omega)⟩
end
/-- string(b). -/
theorem run_bytesString {P : Program} {w : World} {src dst e : TypeId} (hs : P.underlying src = some (.slice e)) (he : P.underlying e = some (.int .u8)) (hd : P.underlying dst = some .string)
    {A : Option Addr} {n : Nat} {l : List UInt8} (h : Rb w A n l) (c : Nat) : (convert src dst (.slice A n c)).run P w = .ok (.string ⟨l.toArray⟩) w := by
  cases A with
  | none =>
    have h0 : n = 0 := by
      rcases Nat.eq_zero_or_pos n with h0 | h0
      · exact h0
      · obtain ⟨ad, e, _⟩ := h.2.2 h0
        cases e
    subst h0
    obtain rfl : l = [] := List.eq_nil_of_length_eq_zero h.1
    exact run_convert_bytes_nil w src e hs he 0 c dst hd
  | some ad =>
    have hl : (loadCells ad n).run P w = .ok ((l.map fun x => (x.toNat : Int)).map (Value.int .u8)).toArray w := by
      have hr := run_loadCells_list (P := P) w ad ((l.map fun x => (x.toNat : Int)).map (Value.int .u8)) (fun j v hj => by
        have hjl : j < l.length := by
          have := (List.getElem?_eq_some_iff.1 hj).1
          simpa using this
        obtain ⟨ad', e1, _, hc⟩ := h.2.2 (by have := h.1; omega)
        injection e1 with e1
        subst e1
        have := hc j (by have := h.1; omega)
        rw [bt_get l j hjl] at this
        simp [hjl] at hj
        rw [this, ← hj])
      simpa [h.1] using hr
    rw [run_convert_bytes_string w src dst e _ n c hs he hd, run_bytesToString w _ n c _ hl, foldl_push_bytes]
    simp [ByteArray.empty, ByteArray.emptyWithCapacity, Function.comp_def]
    rfl

theorem grown_set (w : World) (g i : Nat) (u : Value) : w.grownBy (w.setCell ⟨g, i, none⟩ u) (some g) :=
  ⟨rfl, rfl, rfl, by simp [World.setCell], fun k _ hne => Below.heap_setCell w _ u k (fun e => hne (by rw [e]))⟩
theorem setCells_bk (g : Nat) (t : TypeId) : ∀ (vs : List Value) (o : Nat) (w : World) (cs : Array Value), Bk w g t cs →
    (∃ cs', Bk (w.setCells g o vs) g t cs' ∧ cs'.size = cs.size ∧ ∀ i, cs'[i]? = if o ≤ i ∧ i < o + vs.length ∧ i < cs.size then vs[i - o]? else cs[i]?) ∧ w.grownBy (w.setCells g o vs) (some g)
  | [], o, w, cs, h => ⟨⟨cs, h, rfl, fun i => by rw [if_neg (by simp; omega)]⟩, World.grownBy.refl _ _⟩
  | v :: r, o, w, cs, h => by
    obtain ⟨⟨cs', h1, h2, h3⟩, h4⟩ := setCells_bk g t r (o + 1) _ _ (h.set o v)
    refine ⟨⟨cs', h1, by rw [h2]; simp, fun i => ?_⟩, (grown_set w g o v).trans h4⟩
    rw [h3 i]
    simp only [Array.size_setIfInBounds, Array.getElem?_setIfInBounds, List.length_cons]
    by_cases h5 : i = o
    · subst h5
      by_cases h6 : i < cs.size
      · rw [if_neg (by omega), if_pos rfl, if_pos h6, if_pos (by omega)]; simp
      · rw [if_neg (by omega), if_pos rfl, if_neg h6, if_neg (by omega)]; simp [h6]
    · rw [if_neg (fun e : o = i => h5 e.symm)]
      by_cases h6 : o + 1 ≤ i ∧ i < o + 1 + r.length ∧ i < cs.size
      · rw [if_pos h6, if_pos (by omega), show i - o = (i - (o + 1)) + 1 by omega]; simp
      · rw [if_neg h6, if_neg (by omega)]

theorem wf_u32 {n : Int} (h : (Lit.int .u32 n).wf = true) : 0 ≤ n ∧ n < 4294967296 := by
  simp [Lit.wf, IntKind.min, IntKind.max, IntKind.signed, IntKind.bits] at h
  omega
theorem wf_u16 {n : Int} (h : (Lit.int .u16 n).wf = true) : 0 ≤ n ∧ n < 65536 := by
  simp [Lit.wf, IntKind.min, IntKind.max, IntKind.signed, IntKind.bits] at h
  omega
theorem wf_u8 {n : Int} (h : (Lit.int .u8 n).wf = true) : 0 ≤ n ∧ n < 256 := by
  simp [Lit.wf, IntKind.min, IntKind.max, IntKind.signed, IntKind.bits] at h
  omega
theorem wf_i64 {n : Int} (h : (Lit.int .i64 n).wf = true) : -9223372036854775808 ≤ n ∧ n ≤ 9223372036854775807 := by
  simp [Lit.wf, IntKind.min, IntKind.max, IntKind.signed, IntKind.bits] at h
  omega
/-- A slice of bytes that came in, as the rows' frames tell it. -/
def InB (w : World) (a : Option Addr) (len cap : Nat) (zs : List Int) : Prop :=
  (a = none ∧ len = 0 ∧ cap = 0 ∧ zs = []) ∨
  ∃ x, a = some x ∧ len ≤ cap ∧ cap ≤ maxLen ∧ zs.length = cap ∧ (∀ i, i < zs.length → w.cell? (x.add i) = some (.int .u8 (zs.getD i 0))) ∧ ∀ n ∈ zs, (Lit.int .u8 n).wf = true
theorem InB.read {w : World} {a : Option Addr} {len cap : Nat} {zs : List Int} (h : InB w a len cap zs) : ∃ l, Rb w a len l ∧ len ≤ cap := by
  rcases h with ⟨rfl, rfl, rfl, rfl⟩ | ⟨x, rfl, h1, h2, h3, h4, h5⟩
  · exact ⟨[], Rb.nil_ w, Nat.le_refl _⟩
  · refine ⟨(zs.take len).map fun n => UInt8.ofNat n.toNat, ⟨by rw [List.length_map, List.length_take]; omega, by simp only [maxLen] at h2; omega, fun hn => ⟨x, rfl, ?_, fun j hj => ?_⟩⟩, h1⟩
    · have := World.block_lt_of_cell? w _ (h4 0 (by omega))
      simpa [Addr.add] using this
    · have hj' : j < zs.length := by omega
      rw [h4 j hj']
      have hb : 0 ≤ zs[j] ∧ zs[j] < 256 := by
        have := h5 _ (List.getElem_mem hj')
        simp [Lit.wf, IntKind.min, IntKind.max, IntKind.signed, IntKind.bits] at this
        omega
      have e1 : zs.getD j 0 = zs[j] := by simp [List.getD_eq_getElem?_getD, hj']
      rw [e1, bt_get _ _ (by simp; omega)]
      simp
      omega

/-- A slice of slices of bytes that are read. -/
def Rbb (w : World) (A : Option Addr) (m : Nat) (ls : List (List UInt8)) : Prop :=
  ls.length = m ∧ m ≤ 9223372036854775807 ∧ (0 < m → ∃ ad, A = some ad ∧ ad.block < w.heap.size ∧ ∀ j, j < m → ∃ B n c, w.cell? (ad.add j) = some (.slice B n c) ∧ Rb w B n (nth ls j) ∧ n ≤ c)
section
variable {w w' : World} {A : Option Addr} {m : Nat} {ls : List (List UInt8)}
theorem Rbb.len (h : Rbb w A m ls) : ls.length = m := h.1
theorem Rbb.bound (h : Rbb w A m ls) : m ≤ 9223372036854775807 := h.2.1
theorem Rbb.at_ (h : Rbb w A m ls) {k : Nat} (hk : k < m) : ∃ ad B n c, A = some ad ∧ w.cell? (ad.add k) = some (.slice B n c) ∧ Rb w B n (nth ls k) ∧ n ≤ c := by
  obtain ⟨ad, e, _, hc⟩ := h.2.2 (by omega)
  obtain ⟨B, n, c, h1, h2, h3⟩ := hc k hk
  exact ⟨ad, B, n, c, e, h1, h2, h3⟩
theorem Rbb.below (h : Rbb w A m ls) (hb : Below w.heap.size w w') : Rbb w' A m ls :=
  ⟨h.1, h.2.1, fun hn => by
    obtain ⟨ad, e, hlt, hc⟩ := h.2.2 hn
    refine ⟨ad, e, Nat.lt_of_lt_of_le hlt hb.size, fun j hj => ?_⟩
    obtain ⟨B, n, c, h1, h2, h3⟩ := hc j hj
    exact ⟨B, n, c, (hb.cell (by rw [addr_block]; exact hlt)).trans h1, h2.below hb, h3⟩⟩
theorem Rbb.nil_ (w : World) : Rbb w none 0 [] := ⟨rfl, by omega, fun h => absurd h (by omega)⟩
end

/-- A whole array stored into the block that is its own. -/
theorem storeWhole {P : Program} {ops : Array Oper} {rest : List Oper} {op : Oper} {a : Act} {w : World} {Q : Exit → Act → World → Prop} (hgd : op.guard = none) (ty : TypeId) (x y : Operand) (ho : op.op = .store ty x y)
    (g : Nat) (t : TypeId) (cs cells : Array Value) (hx : a.eval x = .pointer (some ⟨g, 0, none⟩)) (hy : a.eval y = .agg cells) (hg : Bk w g t cs) (hsz : cs.size = cells.size)
    (hi : (P.info? ty).map (·.size) = some cells.size) (h1 : cells.all (·.oneCell') = true)
    (h : ∀ w1, Bk w1 g t cells → w.grownBy w1 (some g) → wpList P ops Q rest (a.put op.dst undef) w1) : wpList P ops Q (op :: rest) a w := by
  have hs : ∀ j, j < cells.size → (w.cell? ⟨g, 0 + j, none⟩).isSome = true := fun j hj => by rw [Nat.zero_add, hg.cell j]; simp [hsz, hj]
  have ht : w.there g 0 cells.size := fun j hj => ⟨hs j hj, hg.free _⟩
  obtain ⟨⟨cs', h2, h3, h4⟩, h5⟩ := setCells_bk g t cells.toList 0 w cs hg
  have he : cs' = cells := by
    apply Array.ext_getElem?
    intro i
    rw [h4 i]
    by_cases h6 : i < cells.size
    · rw [if_pos (by simp; omega)]; simp
    · rw [if_neg (by simp; omega)]; simp [h6, hsz]
  subst he
  exact wpList_store_mid hgd ty x y ho g 0 cs' hx hy ht hi h1 (h _ h2 h5)

/-- m elements of some cells each, that are read at A. -/
def Rv (w : World) (A : Option Addr) (vs : List Value) : Prop :=
  0 < vs.length → ∃ ad, A = some ad ∧ ad.block < w.heap.size ∧ ∀ j u, vs[j]? = some u → w.cell? (ad.add j) = some u
theorem Rb.vals {w : World} {A : Option Addr} {n : Nat} {l : List UInt8} (h : Rb w A n l) : Rv w A (bytesV l) := by
  intro hp
  rw [bytesV_len] at hp
  obtain ⟨ad, e, hlt, hc⟩ := h.2.2 (by have := h.1; omega)
  refine ⟨ad, e, hlt, fun j u hu => ?_⟩
  have hj : j < l.length := by
    have := (List.getElem?_eq_some_iff.1 hu).1
    rwa [bytesV_len] at this
  rw [bytesV_get l j hj] at hu
  injection hu with hu
  rw [← hu]
  exact hc j (by have := h.1; omega)

theorem Rv.new (w : World) (e : TypeId) (cs : Array Value) (vs : List Value) (h : cs.toList = vs) (fr : Nat × Nat := (0, 0)) : Rv (w.alloc (.cells cs e fr)) (some ⟨w.heap.size, 0, none⟩) vs := by
  subst h
  refine fun _ => ⟨_, rfl, by simp, fun j u hu => ?_⟩
  rw [addr_plain, cell_of_row _ _ j cs e fr (heap_alloc_new w _), ← Array.getElem?_toList, hu]

theorem Rv.newAt (w : World) (e : TypeId) (cs : Array Value) (vs : List Value) (h : cs.toList = vs) (b : Nat) (hb : w.heap.size = b) (fr : Nat × Nat := (0, 0)) : Rv (w.alloc (.cells cs e fr)) (some ⟨b, 0, none⟩) vs := by
  subst hb
  exact Rv.new w e cs vs h fr

section
variable {P : Program} {w : World}
/-- append onto a row of the call's own, of whatever is read: what it comes to. -/
theorem run_appendRow (base : Nat) (t ty e : TypeId) (z : Value) (size bytes : Nat) (ht : P.underlying t = some (.slice e))
    (hinfo : (P.info? e).map (fun i => (i.zero, i.size, i.bytes)) = some (some z, size, bytes)) (hz : z.cells.size = size) (hsz : 0 < size)
    (v : Value) (n : Nat) (xs : List Value) (hown : w.ownsRow base e size v n xs) (A : Option Addr) (m c : Nat) (ys : List Value) (hl : ys.length = m * size) (hr : Rv w A ys)
    (h1 : ∀ u ∈ ys, u.oneCell' = true) (hm : n + m ≤ maxLen) (hbytes : (n + m) * bytes ≤ 140737488355328) (hbase : base ≤ w.heap.size) :
    ∃ v' w', (Builtin.append_ #[t, t] ty #[v, .slice A m c]).run P w = .ok v' w' ∧ w'.ownsRow base e size v' (n + m) (xs ++ ys) ∧ w.grownBy w' v.ownBlock ∧ (v'.ownBlock = v.ownBlock ∨ v'.ownBlock = some w.heap.size) := by
  obtain ⟨i, hi, hzz⟩ := Option.map_eq_some_iff.1 hinfo
  simp only [Prod.mk.injEq] at hzz
  obtain ⟨hz0, hz1, hz2⟩ := hzz
  rcases Nat.eq_zero_or_pos m with h0 | h0
  · subst h0
    have hys : ys = [] := List.eq_nil_of_length_eq_zero (by omega)
    subst hys
    cases A with
    | none =>
      refine ⟨v, w, ?_, by simpa using hown, World.grownBy.refl w _, .inl rfl⟩
      rcases hown.2 with ⟨rfl, rfl⟩ | ⟨g, cap, cur, rfl, _, _, hnc, _⟩
      · simp [Builtin.append_, run_underlying ht, sizeOf, typeInfo, hi, Builtin.lenOf, Builtin.firstCells]
      · simp [Builtin.append_, run_underlying ht, sizeOf, typeInfo, hi, Builtin.lenOf, Builtin.firstCells, hnc, storeCells]
    | some ad =>
      obtain ⟨v', w', hrun, h2, h3, _, h5⟩ := run_append_own_at (P := P) w base t ty e i z size bytes ht hi hz0 hz1 hz2 hz hsz v n xs hown ad 0 c [] (by simp) (by simp) (by simp) (by omega) (by simpa using hbytes) hbase
      exact ⟨v', w', hrun, h2, h3, h5⟩
  · obtain ⟨ad, rfl, _, hc⟩ := hr (by rw [hl]; exact Nat.mul_pos h0 hsz)
    obtain ⟨v', w', hrun, h2, h3, _, h5⟩ := run_append_own_at (P := P) w base t ty e i z size bytes ht hi hz0 hz1 hz2 hz hsz v n xs hown ad m c ys hl hc h1 hm hbytes hbase
    exact ⟨v', w', hrun, h2, h3, h5⟩

theorem wpAppend {o : Oper} {a : Act} {K : Act → World → Prop} {Q : Exit → Act → World → Prop} (s x : Operand) (t : TypeId)
    (ho : o.op = .call { callee := .builtin .append, args := #[s, x], argTypes := #[t, t] })
    (base : Nat) (e : TypeId) (z : Value) (size bytes : Nat) (ht : P.underlying t = some (.slice e))
    (hinfo : (P.info? e).map (fun i => (i.zero, i.size, i.bytes)) = some (some z, size, bytes)) (hz : z.cells.size = size) (hsz : 0 < size)
    (v : Value) (n : Nat) (xs : List Value) (hs : a.eval s = v) (hown : w.ownsRow base e size v n xs) (A : Option Addr) (m c : Nat) (ys : List Value) (hx : a.eval x = .slice A m c) (hl : ys.length = m * size) (hr : Rv w A ys)
    (h1 : ∀ u ∈ ys, u.oneCell' = true) (hm : n + m ≤ maxLen) (hbytes : (n + m) * bytes ≤ 140737488355328) (hbase : base ≤ w.heap.size)
    (h : ∀ v' w', w'.ownsRow base e size v' (n + m) (xs ++ ys) → w.grownBy w' v.ownBlock → (v'.ownBlock = v.ownBlock ∨ v'.ownBlock = some w.heap.size) → K (a.put o.dst v') w') : o.wp P a w K Q := by
  obtain ⟨v', w', hrun, h2, h3, h4⟩ := run_appendRow (P := P) base t o.type e z size bytes ht hinfo hz hsz v n xs hown A m c ys hl hr h1 hm hbytes hbase
  unfold Oper.wp execOp
  simp only [ho, resolve, invoke, builtin, Sem.run_bind, Sem.run_pure, Result.andThen_ok, List.map_toArray, List.map_cons, List.map_nil, hs, hx, hrun]
  exact h v' w' h2 h3 h4
theorem wpListAppend {ops : Array Oper} {rest : List Oper} {o : Oper} {a : Act} {Q : Exit → Act → World → Prop} (hgd : o.guard = none) (s x : Operand) (t : TypeId)
    (ho : o.op = .call { callee := .builtin .append, args := #[s, x], argTypes := #[t, t] })
    (base : Nat) (e : TypeId) (z : Value) (size bytes : Nat) (ht : P.underlying t = some (.slice e))
    (hinfo : (P.info? e).map (fun i => (i.zero, i.size, i.bytes)) = some (some z, size, bytes)) (hz : z.cells.size = size) (hsz : 0 < size)
    (v : Value) (n : Nat) (xs : List Value) (hs : a.eval s = v) (hown : w.ownsRow base e size v n xs) (A : Option Addr) (m c : Nat) (ys : List Value) (hx : a.eval x = .slice A m c) (hl : ys.length = m * size) (hr : Rv w A ys)
    (h1 : ∀ u ∈ ys, u.oneCell' = true) (hm : n + m ≤ maxLen) (hbytes : (n + m) * bytes ≤ 140737488355328) (hbase : base ≤ w.heap.size)
    (h : ∀ v' w', w'.ownsRow base e size v' (n + m) (xs ++ ys) → w.grownBy w' v.ownBlock → (v'.ownBlock = v.ownBlock ∨ v'.ownBlock = some w.heap.size) → wpList P ops Q rest (a.put o.dst v') w') :
    wpList P ops Q (o :: rest) a w :=
  wpList_plain hgd fun _ hK => wpAppend s x t ho base e z size bytes ht hinfo hz hsz v n xs hs hown A m c ys hx hl hr h1 hm hbytes hbase fun v' w' h2 h3 h4 => hK _ _ (h v' w' h2 h3 h4)
end

theorem below_of_grown {w w' : World} (h : w.grownBy w' none) : Below w.heap.size w w' := ⟨h.os, h.tape, h.output, h.size, fun i hi => h.block i hi (by simp)⟩
theorem grown_of_below {w w' : World} (h : Below w.heap.size w w') (row : Option Nat) : w.grownBy w' row := ⟨h.os, h.tape, h.output, h.size, fun i hi _ => h.block i hi⟩
/-- Below, and then what changes new blocks alone. -/
theorem Below.then_grown {B : Nat} {w w1 w2 : World} {row : Option Nat} (h : Below B w w1) (hB : B ≤ w.heap.size) (hg : w1.grownBy w2 row) (hr : ∀ k, row = some k → B ≤ k) : Below B w w2 :=
  h.grown hg (Nat.le_trans hB h.size) hr
theorem Below.then_below {w w1 w2 : World} (h : Below w.heap.size w w1) (k : Below w1.heap.size w1 w2) : Below w.heap.size w w2 :=
  h.trans (k.mono h.size)
theorem below_drewN {B : Nat} {w w1 : World} (h : Below B w w1) (n : Nat) : Below B w (w1.drewN n) := ⟨h.os, h.tape, h.output, h.size, h.block⟩
theorem own_block_le {w : World} {base : Nat} {e : TypeId} {size n : Nat} {v : Value} {xs : List Value} (h : w.ownsRow base e size v n xs) : ∀ k, v.ownBlock = some k → base ≤ k := fun k hk => (h.lt k hk).1
theorem own_below {w w' : World} {base : Nat} {e : TypeId} {size n : Nat} {v : Value} {xs : List Value} (h : w.ownsRow base e size v n xs) (hb : Below w.heap.size w w') : w'.ownsRow base e size v n xs :=
  h.kept (grown_of_below hb none) (by cases v.ownBlock <;> simp)
theorem own_slice {w : World} {base : Nat} {e : TypeId} {size n : Nat} {v : Value} {xs : List Value} (h : w.ownsRow base e size v n xs) : ∃ A c, v = .slice A n c ∧ n ≤ c := by
  rcases h.2 with ⟨rfl, rfl⟩ | ⟨g, cap, cur, rfl, _, _, h1, _⟩
  · exact ⟨none, 0, rfl, Nat.le_refl _⟩
  · exact ⟨_, cap, rfl, h1⟩

theorem own_base_le {w : World} {base base' : Nat} {e : TypeId} {size n : Nat} {v : Value} {xs : List Value} (h : w.ownsRow base e size v n xs) (hb : base' ≤ base) : w.ownsRow base' e size v n xs := by
  refine ⟨h.1, ?_⟩
  rcases h.2 with h1 | ⟨g, cap, cur, h1, h2, h3⟩
  · exact .inl h1
  · exact .inr ⟨g, cap, cur, h1, Nat.le_trans hb h2, h3⟩
theorem Rb.new (w : World) (e : TypeId) (cs : Array Value) (l : List UInt8) (hm : l.length ≤ 9223372036854775807) (h : cs.toList = bytesV l) (n : Nat) (hn : n = l.length) (fr : Nat × Nat := (0, 0)) : Rb (w.alloc (.cells cs e fr)) (some ⟨w.heap.size, 0, none⟩) n l := by
  refine ⟨hn.symm, by omega, fun _ => ⟨_, rfl, by simp, fun j hj => ?_⟩⟩
  rw [addr_plain, cell_of_row _ _ j cs e fr (heap_alloc_new w _), ← Array.getElem?_toList, h, bytesV_get l j (by omega)]
theorem own_free {w : World} {base : Nat} {e : TypeId} {size n c g : Nat} {xs : List Value} (h : w.ownsRow base e size (.slice (some ⟨g, 0, none⟩) n c) n xs) (i : Nat) : w.frozen? ⟨g, i, none⟩ = false := by
  rcases h.2 with ⟨h1, _⟩ | ⟨g', cap, cur, h1, _, h2, _⟩
  · injection h1 with h1; cases h1
  · have : g = g' := by injection h1 with h1; injection h1 with h1; injection h1
    subst this
    simp [World.frozen?, h2]
theorem bytesV_set (l : List UInt8) (i y : Nat) (hy : y < 256) : bytesV (l.set i (UInt8.ofNat y)) = (bytesV l).set i (.int .u8 (y : Int)) := by
  simp [bytesV, List.map_set, Nat.mod_eq_of_lt hy]
theorem own_some {w : World} {base : Nat} {e : TypeId} {size n c : Nat} {A : Option Addr} {xs : List Value} (h : w.ownsRow base e size (.slice A n c) n xs) (hn : 0 < n) : ∃ g, A = some ⟨g, 0, none⟩ := by
  obtain ⟨g, cap, hv, _⟩ := h.form hn
  exact ⟨g, by injection hv⟩
theorem own_ne {w : World} {base : Nat} {e : TypeId} {size n g : Nat} {v : Value} {xs : List Value} (h : w.ownsRow base e size v n xs) (hg : g < base) : v.ownBlock = none ∨ v.ownBlock ≠ some g := by
  cases hv : v.ownBlock with
  | none => exact .inl rfl
  | some b => exact .inr (fun e => by injection e with e; have := (h.lt b hv).1; omega)
theorem cell_keep {w w' : World} {a : Addr} {v : Value} (h : w.cell? a = some v) (hb : Below w.heap.size w w') : w'.cell? a = some v := (hb.cell (World.block_lt_of_cell? w a h)).trans h
theorem belowOf {w w1 : World} {n : Nat} {p q r : Addr} {a b c : Value} (h : Below n w w1 ∧ w1.cell? p = some a ∧ w1.cell? q = some b ∧ w1.cell? r = some c) : Below n w w1 := h.1
theorem keepS1 {w w1 w2 : World} {n : Nat} {p : Addr} {a : Value} (h : Below n w w1 ∧ w1.cell? p = some a) (hb : Below w1.heap.size w1 w2) (hn : n ≤ w.heap.size) : Below n w w2 ∧ w2.cell? p = some a :=
  ⟨h.1.trans (hb.mono (Nat.le_trans hn h.1.size)), cell_keep h.2 hb⟩
theorem keepS3 {w w1 w2 : World} {n : Nat} {p q r : Addr} {a b c : Value} (h : Below n w w1 ∧ w1.cell? p = some a ∧ w1.cell? q = some b ∧ w1.cell? r = some c) (hb : Below w1.heap.size w1 w2) (hn : n ≤ w.heap.size) :
    Below n w w2 ∧ w2.cell? p = some a ∧ w2.cell? q = some b ∧ w2.cell? r = some c :=
  ⟨h.1.trans (hb.mono (Nat.le_trans hn h.1.size)), cell_keep h.2.1 hb, cell_keep h.2.2.1 hb, cell_keep h.2.2.2 hb⟩
theorem madeCells_one (z : Value) (k : Nat) : (madeCells #[z] k).toList = List.replicate k z := by
  apply List.ext_getElem
  · simp [madeCells]
  · intro i h1 h2
    simp [madeCells, Nat.mod_one]
/-- make([]T, k, c), the element one cell. -/
theorem makeRow {P : Program} {w : World} {ops : Array Oper} {rest : List Oper} {o : Oper} {a : Act} {Q : Exit → Act → World → Prop} (hgd : o.guard = none) (lo co : Operand) (t e : TypeId)
    (ho : o.op = .makeSlice t lo co) (ht : P.underlying t = some (.slice e)) (z : Value) (bytes : Nat)
    (hinfo : (P.info? e).map (fun i => (i.zero, i.size, i.bytes)) = some (some z, 1, bytes)) (hz : z.cells = #[z])
    (base : Nat) (kI cI : Int) (hkI : a.eval lo = .int .i64 kI) (hcI : a.eval co = .int .i64 cI) (k c : Nat) (hk : kI = (k : Int)) (hc : cI = (c : Int)) (hkc : k ≤ c) (hbytes : bytes * c ≤ 281474976710656) (hm : c ≤ maxLen) (hbase : base ≤ w.heap.size)
    (h : ∀ w', w'.ownsRow base e 1 (.slice (some ⟨w.heap.size, 0, none⟩) k c) k (List.replicate k z) → w.grownBy w' none → w'.heap.size = w.heap.size + 1 → wpList P ops Q rest (a.put o.dst (.slice (some ⟨w.heap.size, 0, none⟩) k c)) w') :
    wpList P ops Q (o :: rest) a w := by
  obtain ⟨i, hi, hzz⟩ := Option.map_eq_some_iff.1 hinfo
  simp only [Prod.mk.injEq] at hzz
  obtain ⟨hz0, hz1, hz2⟩ := hzz
  refine wpList_plain hgd fun K hK => ?_
  have hb' : (i.bytes : Int) * (c : Int) ≤ 281474976710656 := by
    rw [hz2]
    have h : ((bytes * c : Nat) : Int) ≤ 281474976710656 := by omega
    rwa [Int.natCast_mul] at h
  have hr := run_make (P := P) w t e i z ht hi hz0 .i64 .i64 k c (by omega) (by omega) hb' (by simp only [maxLen] at hm; omega)
  simp only [Int.toNat_natCast, hz1, Nat.mul_one, hz] at hr
  unfold Oper.wp execOp
  simp only [ho, hkI, hcI, hk, hc, Sem.run_bind, Sem.run_pure, Result.andThen_ok, hr]
  refine hK _ _ (h _ ⟨by simp, .inr ⟨w.heap.size, c, madeCells #[z] c, rfl, hbase, heap_alloc_new w _, hkc, hm, by simp [madeCells], ?_⟩⟩ (World.grownBy_alloc w _ none) (by simp))
  rw [madeCells_one, List.take_replicate]
  congr 1
  omega
theorem bytesV_zeros (k : Nat) : List.replicate k (Value.int .u8 0) = bytesV (List.replicate k 0) := by simp [bytesV]

/-- append of bytes: t is []byte's number, e byte's. -/
theorem appendBytes {P : Program} {w : World} {ops : Array Oper} {rest : List Oper} {o : Oper} {a : Act} {Q : Exit → Act → World → Prop} (hgd : o.guard = none) (s x : Operand) (t : TypeId)
    (ho : o.op = .call { callee := .builtin .append, args := #[s, x], argTypes := #[t, t] }) (e : TypeId) (ht : P.underlying t = some (.slice e))
    (hinfo : (P.info? e).map (fun i => (i.zero, i.size, i.bytes)) = some (some (.int .u8 0), 1, 1))
    (base : Nat) (v : Value) (n : Nat) (xs : List UInt8) (hs : a.eval s = v) (hown : w.ownsRow base e 1 v n (bytesV xs)) (A : Option Addr) (m c : Nat) (ys : List UInt8) (hx : a.eval x = .slice A m c) (hr : Rb w A m ys)
    (hbytes : n + m ≤ 140737488355328) (hbase : base ≤ w.heap.size)
    (h : ∀ v' w', w'.ownsRow base e 1 v' (n + m) (bytesV (xs ++ ys)) → w.grownBy w' v.ownBlock → (v'.ownBlock = v.ownBlock ∨ v'.ownBlock = some w.heap.size) → wpList P ops Q rest (a.put o.dst v') w') :
    wpList P ops Q (o :: rest) a w :=
  wpListAppend hgd s x t ho base e (.int .u8 0) 1 1 ht hinfo rfl (by omega) v n _ hs hown A m c (bytesV ys) hx (by rw [bytesV_len, hr.len]; omega) hr.vals (bytesV_one ys)
    (by simp only [maxLen]; omega) (by omega) hbase (fun v' w' h1 h2 h3 => h v' w' (by rw [bytesV_append]; exact h1) h2 h3)
end Go.Proofs.Ytpdnedgoldjghaa
