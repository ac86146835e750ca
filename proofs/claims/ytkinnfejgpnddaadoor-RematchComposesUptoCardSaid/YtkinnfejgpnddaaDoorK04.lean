/- Maps from keys to true, as sets: what a look-up gives, what a store leaves, how many there are. -/
import Derived.Test.YtkinnfejgpnddaaDoorK01
import Derived.MapKept
import Derived.Laws.StructEq
import Derived.Test.YtkinnfejgpnddaaDoorK03
import Derived.Lib.ItoaLen
import Derived.Deep.Cut
import Derived.Test.YtkinnfejgpnddaaDoorK02
namespace Go.Proofs.YtkinnfejgpnddaaDoor
open Go.RowKit

section
variable {P : Program} {κ : Type}
/-- Block M is a map from the keys of l to true. -/
def KSet (enc : κ → Value) (w : World) (M : Nat) (l : List κ) : Prop :=
  ∃ es clock, w.heap[M]? = some (.map es clock) ∧ es.toList.map (·.key) = l.map enc ∧ ∀ e, e ∈ es.toList → e.val = .bool true
variable {enc : κ → Value} {w w' : World} {M : Nat} {l : List κ}
theorem KSet.lt (h : KSet enc w M l) : M < w.heap.size := by
  obtain ⟨es, c, h1, _⟩ := h
  rcases Nat.lt_or_ge M w.heap.size with h2 | h2
  · exact h2
  · simp [Array.getElem?_eq_none h2] at h1
theorem KSet.of_block (h : KSet enc w M l) (hb : w'.heap[M]? = w.heap[M]?) : KSet enc w' M l := by
  obtain ⟨es, c, h1, h2⟩ := h
  exact ⟨es, c, hb.trans h1, h2⟩
theorem KSet.but {S : List Nat} (h : KSet enc w M l) (hb : But S w w') (hM : M ∉ S) : KSet enc w' M l := h.of_block (hb.block M h.lt hM)
theorem KSet.below (h : KSet enc w M l) (hb : Below w.heap.size w w') : KSet enc w' M l := h.of_block (hb.block M h.lt)
theorem KSet.new (h : M = w.heap.size) : KSet enc (w.alloc (.map #[] 0)) M [] := by
  subst h
  exact ⟨#[], 0, by show (w.heap.push _)[w.heap.size]? = _; simp, by simp, by simp⟩
theorem KSet.other {B : Nat} (h : KSet enc w M l) (hn : M ≠ B) (j : Nat) (v : Value) : KSet enc (w.setCell ⟨B, j, none⟩ v) M l := h.of_block (Below.heap_setCell _ _ _ _ hn)
theorem KSet.row {T : TypeId} {cs : List Value} (h : KSet enc w M l) (hr : Row w M cs T) : False := by
  obtain ⟨es, c, h1, _⟩ := h
  have h2 : w.heap[M]? = some (.cells cs.toArray T (0, 0)) := hr
  rw [h1] at h2
  cases h2
theorem KSet.run_len (h : KSet enc w M l) (T K E ty : TypeId) (hT : P.underlying T = some (.map K E)) : (Builtin.len_ #[T] ty #[.map (some M)]).run P w = .ok (.int .i64 l.length) w := by
  obtain ⟨es, c, h1, h2, h3⟩ := h
  have hl : es.size = l.length := by
    have := congrArg List.length h2
    simpa using this
  simp [Builtin.len_, run_underlying hT, MapKept.run_getObj_map h1, goInt, hl, Result.andThen]
theorem wpList_len_kset {ops : Array Oper} {rest : List Oper} {o : Oper} {a : Act} {Q : Exit → Act → World → Prop} (hgd : o.guard = none) (x : Operand) (T K E : TypeId) (hT : P.underlying T = some (.map K E)) (ho : o.op = .call { callee := .builtin .len, args := #[x], argTypes := #[T] }) (h : KSet enc w M l)
    (hx : a.eval x = .map (some M)) (hn : wpList P ops Q rest (a.put o.dst (.int .i64 l.length)) w) : wpList P ops Q (o :: rest) a w := by
  refine wpList_plain hgd fun K' hK' => ?_
  unfold Oper.wp
  simp [execOp, ho, resolve, invoke, builtin, hx, h.run_len T K E o.type hT, Result.andThen]
  exact hK' _ _ hn
variable [BEq κ] [LawfulBEq κ]
/-- Keys of a type, as values. -/
structure KeyLaw (P : Program) (K : TypeId) (enc : κ → Value) : Prop where
  check : ∀ (b : Bool) (x : κ) (w : World), (Instr.checkKey b 10000 K (enc x)).run P w = .ok () w
  find : ∀ (x : κ) (es : List MapEntry) (l : List κ) (w : World), es.map (·.key) = l.map enc → ∃ r, (Instr.findKey K (enc x) es).run P w = .ok r w ∧ r.isSome = decide (x ∈ l) ∧ ∀ p, r = some p → ∃ e, e ∈ es ∧ e.val = p.2
theorem KSet.run_lookup (h : KSet enc w M l) (T K E : TypeId) (hT : P.underlying T = some (.map K E)) (hk : KeyLaw P K enc) (hz : (zeroValue E).run P w = .ok (.bool false) w) (x : κ) :
    (Instr.lookup T (.map (some M)) (enc x) false).run P w = .ok (.bool (decide (x ∈ l))) w := by
  obtain ⟨es, c, h1, h2, h3⟩ := h
  obtain ⟨r, h4, h5, h6⟩ := hk.find x es.toList l w h2
  have hck := hk.check es.isEmpty x w
  rw [← h5]
  cases r with
  | none => simp [Instr.lookup, run_underlying hT, MapKept.run_getObj_map h1, hck, h4, hz, Result.andThen]
  | some p =>
    obtain ⟨e, he1, he2⟩ := h6 p rfl
    have := h3 e he1
    rw [he2] at this
    obtain ⟨j, v⟩ := p
    simp only at this
    subst this
    simp [Instr.lookup, run_underlying hT, MapKept.run_getObj_map h1, hck, h4, Result.andThen]
theorem KSet.run_update (h : KSet enc w M l) (T K E : TypeId) (hT : P.underlying T = some (.map K E)) (hk : KeyLaw P K enc) (x : κ) (hx : x ∉ l) :
    ∃ w', (Instr.mapUpdate T (.map (some M)) (enc x) (.bool true)).run P w = .ok () w' ∧ KSet enc w' M (l ++ [x]) ∧ But [M] w w' := by
  have hlt := h.lt
  obtain ⟨es, c, h1, h2, h3⟩ := h
  obtain ⟨r, h4, h5, h6⟩ := hk.find x es.toList l w h2
  have hck := hk.check false x w
  cases r with
  | some p => simp [hx] at h5
  | none =>
    refine ⟨{ w with heap := w.heap.setIfInBounds M (.map (es.push { key := enc x, val := .bool true, born := c }) (c + 1)) }, by simp [Instr.mapUpdate, run_underlying hT, MapKept.run_getObj_map h1, hck, h4, MapKept.run_setObj_map _ h1, Result.andThen], ⟨es.push { key := enc x, val := .bool true, born := c }, c + 1, by simp [hlt], ?_, ?_⟩, ⟨rfl, rfl, rfl, by simp, fun i hi hn => by
      have : M ≠ i := by simpa using Ne.symm (by simpa using hn)
      simp [this]⟩⟩
    · rw [Array.toList_push, List.map_append, h2, List.map_append]
      rfl
    · intro e he
      simp at he
      rcases he with he | he
      · exact h3 e (by simpa using he)
      · subst he; rfl
theorem wpList_lookup_kset {ops : Array Oper} {rest : List Oper} {o : Oper} {a : Act} {Q : Exit → Act → World → Prop} (hgd : o.guard = none) (T : TypeId) (x y : Operand) (ho : o.op = .lookup T x y false) (h : KSet enc w M l)
    (hx : a.eval x = .map (some M)) (k : κ) (hy : a.eval y = enc k) (K E : TypeId) (hT : P.underlying T = some (.map K E)) (hk : KeyLaw P K enc) (hz : (zeroValue E).run P w = .ok (.bool false) w)
    (hn : wpList P ops Q rest (a.put o.dst (.bool (decide (k ∈ l)))) w) : wpList P ops Q (o :: rest) a w := by
  refine wpList_plain hgd fun K' hK' => ?_
  unfold Oper.wp
  simp [execOp, ho, hx, hy, h.run_lookup T K E hT hk hz k, Result.andThen]
  exact hK' _ _ hn
theorem wpList_update_kset {ops : Array Oper} {rest : List Oper} {o : Oper} {a : Act} {Q : Exit → Act → World → Prop} (hgd : o.guard = none) (T : TypeId) (x y z : Operand) (ho : o.op = .mapUpdate T x y z) (h : KSet enc w M l)
    (hx : a.eval x = .map (some M)) (k : κ) (hy : a.eval y = enc k) (hnk : k ∉ l) (hz : a.eval z = .bool true) (K E : TypeId) (hT : P.underlying T = some (.map K E)) (hk : KeyLaw P K enc)
    (hn : ∀ w', KSet enc w' M (l ++ [k]) → But [M] w w' → wpList P ops Q rest (a.put o.dst undef) w') : wpList P ops Q (o :: rest) a w := by
  refine wpList_plain hgd fun K' hK' => ?_
  obtain ⟨w', h1, h2, h3⟩ := h.run_update T K E hT hk k hnk
  unfold Oper.wp
  simp [execOp, ho, hx, hy, hz, h1, Result.andThen]
  exact hK' _ _ (hn w' h2 h3)
/-- A string as a value. -/
def strV (l : List UInt8) : Value := .string ⟨l.toArray⟩
theorem str_beq (a b : List UInt8) : ((⟨a.toArray⟩ : ByteArray) == ⟨b.toArray⟩) = (a == b) := by
  rw [beq_toListBytes, ByteArray.toList_eq, ByteArray.toList_eq]
/-- Strings as keys. -/
theorem findNow_str (s : List UInt8) : ∀ (es : List MapEntry) (l : List (List UInt8)) (i : Nat), es.map (·.key) = l.map strV → ∃ r, Instr.findNow .string (strV s) es i = some r ∧ r.isSome = decide (s ∈ l) ∧ ∀ p, r = some p → ∃ e, e ∈ es ∧ e.val = p.2
  | [], l, i, h => by
    have : l = [] := by simpa using h.symm
    subst this
    exact ⟨none, rfl, rfl, fun _ h => by cases h⟩
  | e :: es, [], i, h => by simp at h
  | e :: es, t :: l, i, h => by
    simp only [List.map_cons, List.cons.injEq] at h
    obtain ⟨h1, h2⟩ := h
    have hsn : Instr.sameNow .string (strV s) e.key = some (s == t) := by rw [h1]; simp only [strV, Instr.sameNow, str_beq]
    by_cases hst : s = t
    · have hb : (s == t) = true := by simp [hst]
      rw [hb] at hsn
      exact ⟨some (i, e.val), by simp only [Instr.findNow, hsn], by simp [hst], fun p hp => ⟨e, by simp, by have := Option.some.inj hp; rw [← this]⟩⟩
    · obtain ⟨r, h3, h4, h5⟩ := findNow_str s es l (i + 1) h2
      have hb : (s == t) = false := by simpa using hst
      rw [hb] at hsn
      refine ⟨r, by simp only [Instr.findNow, hsn, h3], by simp [h4, hst], fun p hp => ?_⟩
      obtain ⟨e', he1, he2⟩ := h5 p hp
      exact ⟨e', by simp [he1], he2⟩
theorem KeyLaw.str {K : TypeId} (hK : P.underlying K = some .string) : KeyLaw P K strV := by
  refine ⟨fun b x w => ?_, fun x es l w h => ?_⟩
  · unfold Instr.checkKey
    simp [run_underlying hK, strV]
  · obtain ⟨r, h1, h2, h3⟩ := findNow_str x es l 0 h
    exact ⟨r, by simp [Instr.findKey, run_underlying hK, h1], h2, h3⟩
theorem findAsk {K : TypeId} (heq : ∀ (x y : κ) (w : World), (Op.equal K (enc x) (enc y)).run P w = .ok (x == y) w) (x : κ) (w : World) : ∀ (es : List MapEntry) (l : List κ) (i : Nat), es.map (·.key) = l.map enc → ∃ r, (Instr.findAsking K (enc x) es i).run P w = .ok r w ∧ r.isSome = decide (x ∈ l) ∧ ∀ p, r = some p → ∃ e, e ∈ es ∧ e.val = p.2
  | [], l, i, h => by
    have : l = [] := by simpa using h.symm
    subst this
    exact ⟨none, rfl, rfl, fun _ h => by cases h⟩
  | e :: es, [], i, h => by simp at h
  | e :: es, t :: l, i, h => by
    simp only [List.map_cons, List.cons.injEq] at h
    obtain ⟨h1, h2⟩ := h
    by_cases hst : x = t
    · subst hst
      exact ⟨some (i, e.val), by simp [Instr.findAsking, h1, heq], by simp, fun p hp => ⟨e, by simp, by have := Option.some.inj hp; rw [← this]⟩⟩
    · obtain ⟨r, h3, h4, h5⟩ := findAsk heq x w es l (i + 1) h2
      refine ⟨r, by simp [Instr.findAsking, h1, heq, hst, h3], by simp [h4, hst], fun p hp => ?_⟩
      obtain ⟨e', he1, he2⟩ := h5 p hp
      exact ⟨e', by simp [he1], he2⟩
end
end Go.Proofs.YtkinnfejgpnddaaDoor

/- The program of layer 9: the tables, and the text of a parse. -/
namespace Go.Proofs.YtkinnfejgpnddaaDoor
open Go.RowKit
attribute [local go_sem] gives givesUpon

/-- The variables that the program reads. -/
structure Tabs9 (w : World) : Prop where
  pow : Lib.TabIs Tryd.prog w "internal/strconv.uint64pow10" .u64 Lib.pow10Tab
  none0 : w.cell? ⟨0, 0, none⟩ = some (.int .i64 (-1))
  none1 : w.cell? ⟨0, 1, none⟩ = some (.int .i64 (-1))
  big : 4 ≤ w.heap.size
theorem pow_glob : (Tryd.prog.globalNamed "internal/strconv.uint64pow10").map (fun g => decide (g < 4)) = some true := by kernel_rfl
theorem Tabs9.below {n : Nat} {w w' : World} (h : Tabs9 w) (hb : Below n w w') (hn : 4 ≤ n) : Tabs9 w' := by
  obtain ⟨g, hg1, hg2⟩ := Option.map_eq_some_iff.1 pow_glob
  have hg3 : g < 4 := by simpa using hg2
  refine ⟨?_, (hb.cell (p := ⟨0, 0, none⟩) (by show 0 < n; omega)).trans h.none0, (hb.cell (p := ⟨0, 1, none⟩) (by show 0 < n; omega)).trans h.none1, Nat.le_trans h.big hb.size⟩
  have hp := h.pow
  unfold Lib.TabIs World.var? at hp ⊢
  rw [hg1] at hp ⊢
  simp only [Option.bind_some] at hp ⊢
  rw [hb.block g (by omega)]
  exact hp
theorem Tabs9.on {w w' : World} (h : Tabs9 w) (hb : Below w.heap.size w w') : Tabs9 w' := h.below hb h.big
theorem Tabs9.tab {B : Nat} {w : World} (h : Tabs9 w) (hB : 4 ≤ B) : Lib.TabBelow Tryd.prog B w "internal/strconv.uint64pow10" .u64 Lib.pow10Tab := fun _ hb => (h.below hb hB).pow
/-- Bytes that the call owns. -/
def OwnB (w : World) (B : Nat) (v : Value) (l : List UInt8) : Prop := w.ownsRow B 5 1 v l.length (Lib.byteCells l)
theorem OwnB.shape {w : World} {B : Nat} {v : Value} {l : List UInt8} (h : OwnB w B v l) : ∃ a c, v = .slice a l.length c := ownsRow_shape h
theorem OwnB.keep {w w' : World} {B : Nat} {v : Value} {l : List UInt8} (h : OwnB w B v l) (hb : Below w.heap.size w w') : OwnB w' B v l :=
  World.ownsRow.kept h (row := none) ⟨hb.os, hb.tape, hb.output, hb.size, fun k hk _ => hb.block k hk⟩ (by cases v.ownBlock <;> simp)
theorem OwnB.nil (w : World) (B : Nat) : OwnB w B (.slice none 0 0) [] := World.ownsRow_nil _ _ _ _
theorem pappend_int (w : World) (B : Nat) (v : Value) (l : List UInt8) (i : Int) (hown : OwnB w B v l) (hi : -1000000000 ≤ i ∧ i ≤ 1000000000) (hB : 4 ≤ B) (hBw : B ≤ w.heap.size) (hl : l.length ≤ 1000000) (ht : Tabs9 w) :
    Calls Tryd.prog 83 #[v, .int .i64 i, .int .i64 10] w fun e w' => ∃ v', e = .returned v' ∧ OwnB w' B v' (l ++ Lib.itoa i) ∧ Below B w w' := by
  refine (Tryd.strconv_AppendInt_10 B l.length i (by omega) (by omega) v (Lib.byteCells l) w hown hBw (by omega) (ht.tab hB)).mono ?_
  rintro e w' ⟨v', he, h1, h2, -⟩
  refine ⟨v', he, ?_, h2⟩
  unfold OwnB
  rw [List.length_append, show Lib.byteCells (l ++ Lib.itoa i) = Lib.byteCells l ++ Lib.byteCells (Lib.itoa i) by unfold Lib.byteCells; exact List.map_append]
  exact h1
set_option maxRecDepth 100000 in
/-- A string whose cells the call owns, as a string. -/
theorem OwnB.conv {w : World} {B : Nat} {a : Option Addr} {n c : Nat} {l : List UInt8} (h : OwnB w B (.slice a n c) l) (hn : n = l.length) (h0 : l ≠ []) : (convert 79 9 (.slice a n c)).run Tryd.prog w = .ok (strV l) w := by
  subst hn
  have hpos : 0 < l.length := List.length_pos_iff.2 h0
  have hh := h
  obtain ⟨_, h1 | ⟨g, cap, cur, hv, hg⟩⟩ := h
  · have := h1.2; omega
  · clear hg
    injection hv with e1 e2 e3
    subst e1
    refine run_convert_bytes_back w _ _ 5 ⟨g, 0, none⟩ c l Tryd.underlying79 Tryd.underlying5 Tryd.underlying9 fun j hj => ?_
    have h1 := World.ownsRow.cells hh (g := g) rfl j (.int .u8 (l[j].toNat : Int)) (by unfold Lib.byteCells; rw [List.getElem?_map, List.getElem?_eq_getElem hj]; rfl)
    exact h1
theorem info_byte : (Tryd.prog.info? 5).map (fun i => (i.zero, i.size, i.bytes)) = some (some (.int .u8 0), 1, 1) := by kernel_rfl
theorem idx_two0 (a b : Int) (w : World) : (Instr.index 121 (.agg #[.int .i64 a, .int .i64 b]) (.int .i64 0)).run Tryd.prog w = .ok (.int .i64 a) w := by
  simp [Instr.index, asIntOf, run_underlying Tryd.underlying121, Tryd.sizeOf3, part, Tryd.isAgg3, Result.andThen]
theorem idx_two1 (a b : Int) (w : World) : (Instr.index 121 (.agg #[.int .i64 a, .int .i64 b]) (.int .i64 1)).run Tryd.prog w = .ok (.int .i64 b) w := by
  simp [Instr.index, asIntOf, run_underlying Tryd.underlying121, Tryd.sizeOf3, part, Tryd.isAgg3, Result.andThen]
/-- The texts of a span's numbers, so far. -/
def kpart (x1 x2 : Int) : Nat → List UInt8
  | 0 => []
  | 1 => 32 :: Lib.itoa x1
  | _ => (32 :: Lib.itoa x1) ++ (32 :: Lib.itoa x2)
theorem itoa_len {i : Int} (h : -1 ≤ i ∧ i ≤ 1000000) : (Lib.itoa i).length ≤ 21 := Lib.itoa_length_le i (by omega) (by omega)
theorem keyMore_len : ∀ (l : List Int), (∀ i, i ∈ l → -1 ≤ i ∧ i ≤ 1000000) → (keyMore l).length ≤ 22 * l.length
  | [], _ => by simp [keyMore]
  | i :: l, h => by
    have h1 := itoa_len (h i (by simp))
    have h2 := keyMore_len l fun j hj => h j (by simp [hj])
    have e : keyMore (i :: l) = 32 :: (Lib.itoa i ++ keyMore l) := rfl
    rw [e]
    simp
    omega
theorem kpart_len {x1 x2 : Int} (h1 : -1 ≤ x1 ∧ x1 ≤ 1000000) (h2 : -1 ≤ x2 ∧ x2 ≤ 1000000) (j : Nat) : (kpart x1 x2 j).length ≤ 44 := by
  have := itoa_len h1
  have := itoa_len h2
  unfold kpart
  split <;> simp <;> omega
/-- What the loops of key keep. -/
def KeyL (w : World) (q1 : Nat) (sv : Value) (l : List UInt8) (v : Value) (wr : World) : Prop :=
  OwnB wr (w.heap.size + 1) v l ∧ Row wr w.heap.size [.int .i64 q1, sv] 48 ∧ Below w.heap.size w wr
set_option maxRecDepth 100000 in
set_option maxHeartbeats 8000000 in
theorem pkey_any (w : World) (q : Parse) (sa : Option Addr) (sc : Nat) (hsp : SpQ w (.slice sa q.2.length sc) q.2) (hl : q.2.length ≤ 9) (hq : q.1 ≤ 1000000) (hx : ∀ x, x ∈ q.2 → -1 ≤ x.1 ∧ x.1 ≤ 1000000 ∧ -1 ≤ x.2 ∧ x.2 ≤ 1000000) (ht : Tabs9 w) :
    Calls Tryd.prog 75 #[.agg #[.int .i64 q.1, .slice sa q.2.length sc]] w fun e w' => e = .returned (strV (keyB q)) ∧ Below w.heap.size w w' := by
  have R0 : Row (w.alloc (.cells #[.int .i64 q.1, .slice sa q.2.length sc] 48)) w.heap.size [.int .i64 q.1, .slice sa q.2.length sc] 48 := Row.new rfl
  have hb1 : Below w.heap.size w (w.alloc (.cells #[.int .i64 q.1, .slice sa q.2.length sc] 48)) := (Below.refl _ _).alloc (Nat.le_refl _) _
  have q0 := R0.cell 0
  have q1 := R0.cell 1
  have HR := hid (⟨R0, hb1⟩ : _ ∧ _)
  have HT := hid ht
  have HS := hid hsp
  have HX := hid hx
  have hbig := ht.big
  have HC1 := hid (pappend_int (w.alloc (.cells #[.int .i64 q.1, .slice sa q.2.length sc] 48)) (w.heap.size + 1) (.slice none 0 0) [] q.1 (OwnB.nil _ _) (by omega) (by omega) (by simp) (by simp) (ht.on hb1))
  obtain ⟨n, hn⟩ : ∃ n, n = q.2.length := ⟨_, rfl⟩
  have hn9 : n ≤ 9 := by omega
  have HN := hid hn
  rw [← hn] at q1 HC1 HR HS ⊢
  clear R0 hb1 ht hsp hx hn
  go_enter Tryd.func75, Tryd.ntmps75
  go_wp2_with fail
  refine HC1.out.mono ?_
  rintro e z ⟨v1, rfl, ho1, hb1⟩
  obtain ⟨a1, c1, rfl⟩ := ho1.shape
  rw [List.nil_append] at ho1 ⊢
  have HZ : Hid (KeyL w q.1 (.slice sa n sc) (Lib.itoa q.1) (.slice a1 (Lib.itoa q.1).length c1) z) := ⟨ho1, HR.out.1.below hb1 (by simp), HR.out.2.trans (hb1.mono (by omega))⟩
  clear HC1 q0 q1 ho1 hb1
  have q1 := HZ.out.2.1.cell 1
  obtain ⟨m1, hm1⟩ : ∃ m, m = (Lib.itoa q.1).length := ⟨_, rfl⟩
  rw [← hm1]
  have HM1 := hid hm1
  clear hm1
  go_wp2_with fail
  go_loopw [3, 14] (fun v3 v14 wr => ∃ (k : Nat) (a : Option Addr) (m c : Nat), v3 = .slice a m c ∧ v14 = .int .i64 k ∧ k ≤ n ∧ Hid (m = (Lib.itoa q.1 ++ keyMore (spNums (q.2.take k))).length ∧ KeyL w q.1 (.slice sa n sc) (Lib.itoa q.1 ++ keyMore (spNums (q.2.take k))) (.slice a m c) wr)) (fun _ v14 _ => n - (intOf v14).toNat)
  case atStart =>
    refine ⟨0, a1, m1, c1, rfl, rfl, Nat.zero_le _, ?_⟩
    have e0 : Lib.itoa q.1 ++ keyMore (spNums (q.2.take 0)) = Lib.itoa q.1 := by simp [spNums, keyMore]
    show _ ∧ _
    rw [e0]
    exact ⟨HM1.out, by rw [HM1.out]; exact HZ.out⟩
  case round =>
    obtain ⟨k, a, m, c, rfl, rfl, hk, HY⟩ := hrel
    obtain ⟨h0, h1, h2, h3⟩ := HY.out
    by_cases hlt : k < n
    · have hltI : (k : Int) < (n : Int) := by omega
      obtain ⟨b, cc, x1, x2, hq, ev, hb, -, p0, p1⟩ := (HS.out.of (fun _ _ hr => hr.below h3 hr.lt) : SpQ wr _ q.2).get (k := k) (by have := HN.out; omega)
      injection ev with e1 e2 e3
      subst e1; subst e3
      clear e2
      have hxb := HX.out (x1, x2) (List.mem_of_getElem? hq)
      dsimp only at hxb
      have hstep : keyMore (spNums (q.2.take (k + 1))) = keyMore (spNums (q.2.take k)) ++ ((32 :: Lib.itoa x1) ++ (32 :: Lib.itoa x2)) := by
        rw [List.take_add_one, hq]
        simp [spNums, keyMore]
      obtain ⟨L, hL⟩ : ∃ L, L = Lib.itoa q.1 ++ keyMore (spNums (q.2.take k)) := ⟨_, rfl⟩
      rw [← hL] at h0 h1
      have hlen : L.length ≤ 1000 := by
        have h5 := keyMore_len (spNums (q.2.take k)) (fun i hi => by
          obtain ⟨x, hx, hi⟩ := List.mem_flatMap.1 hi
          have h6 := HX.out x (List.mem_of_mem_take hx)
          simp at hi
          rcases hi with rfl | rfl <;> omega)
        have h6 : (spNums (q.2.take k)).length = 2 * k := by
          have h7 : ∀ l : Spans, (spNums l).length = 2 * l.length := fun l => by
            induction l with
            | nil => rfl
            | cons x l ih =>
              have e : spNums (x :: l) = x.1 :: x.2 :: spNums l := rfl
              rw [e]
              simp [ih]
              omega
          rw [h7, List.length_take]
          have := HN.out
          omega
        have h8 := Lib.itoa_length_le (q.1 : Int) (by omega) (by omega)
        rw [hL, List.length_append]
        omega
      have HL := hid hL
      have HST := hid hstep
      have hal : Below wr.heap.size wr (wr.alloc (.cells #[.int .i64 x1, .int .i64 x2] 46)) := (Below.refl _ _).alloc (Nat.le_refl _) _
      have HY2 := hid (⟨h0, h1.keep hal, h2.below hal h2.lt, h3.trans (hal.mono h3.size), hal.size⟩ : m = L.length ∧ OwnB _ _ _ L ∧ Row _ _ _ _ ∧ Below w.heap.size w _ ∧ _)
      clear h0 h1 h2 h3 hal hL hstep hq HY
      go_wp2_with fail
      go_loopw [3, 23] (fun v3 v23 wx => ∃ (j : Nat) (a : Option Addr) (m c : Nat), v3 = .slice a m c ∧ v23 = .int .i64 j ∧ j ≤ 2 ∧ Hid (m = (L ++ kpart x1 x2 j).length ∧ KeyL w q.1 (.slice (some ⟨b, 0, none⟩) n sc) (L ++ kpart x1 x2 j) (.slice a m c) wx)) (fun _ v23 _ => 2 - (intOf v23).toNat)
      case atStart => exact ⟨0, a, m, c, rfl, rfl, by omega, by simp [kpart]; exact HY2.out.1, by simp only [kpart, List.append_nil]; exact ⟨HY2.out.2.1, HY2.out.2.2.1, HY2.out.2.2.2.1⟩⟩
      case round =>
        obtain ⟨j, a, m, c, rfl, rfl, hj, HK⟩ := hrel
        by_cases hj2 : j = 2
        · subst hj2
          have HF : Hid (m = (Lib.itoa q.1 ++ keyMore (spNums (q.2.take (k + 1)))).length ∧ KeyL w q.1 (.slice (some ⟨b, 0, none⟩) n sc) (Lib.itoa q.1 ++ keyMore (spNums (q.2.take (k + 1)))) (.slice a m c) wr) := by
            have he : Lib.itoa q.1 ++ keyMore (spNums (q.2.take (k + 1))) = L ++ kpart x1 x2 2 := by rw [HST.out, HL.out, List.append_assoc]; rfl
            show _ ∧ _
            rw [he]
            exact HK.out
          clear HK
          go_wp2_with fail
          refine ⟨⟨k + 1, a, m, c, rfl, by go_num, by omega, HF.out⟩, ?_⟩
          simp [intOf] <;> omega
        · have h01 : ∃ y : Int, ((j = 0 ∧ y = x1) ∨ (j = 1 ∧ y = x2)) ∧ Hid (kpart x1 x2 (j + 1) = (kpart x1 x2 j ++ [32]) ++ Lib.itoa y) ∧ (-1 ≤ y ∧ y ≤ 1000000) := by
            by_cases h0 : j = 0
            · subst h0; exact ⟨x1, .inl ⟨rfl, rfl⟩, rfl, by omega⟩
            · obtain rfl : j = 1 := by omega
              exact ⟨x2, .inr ⟨rfl, rfl⟩, by simp [kpart, Hid], by omega⟩
          obtain ⟨y, hjy, HY3, hyb⟩ := h01
          obtain ⟨K, hK⟩ : ∃ K, K = L ++ kpart x1 x2 j := ⟨_, rfl⟩
          obtain ⟨g0, g1, g2, g3⟩ := HK.out
          rw [← hK] at g0 g1
          have hkl : K.length ≤ 2000 := by
            have := kpart_len (x1 := x1) (x2 := x2) (by omega) (by omega) j
            rw [hK, List.length_append]; omega
          have HKK := hid hK
          have HG := hid (⟨g0, g1, g2, g3⟩ : m = K.length ∧ OwnB _ _ _ K ∧ _ ∧ Below w.heap.size w _)
          have hsz := g3.size
          have hbig := HT.out.big
          obtain ⟨i0, hi, hz0, hz1, hz2⟩ := info_parts info_byte
          clear g0 g1 g2 g3 hK HK
          have hix : ∀ w0 : World, (Instr.index 121 (.agg #[.int .i64 x1, .int .i64 x2]) (.int .i64 j)).run Tryd.prog w0 = .ok (.int .i64 y) w0 := by
            intro w0
            rcases hjy with ⟨rfl, rfl⟩ | ⟨rfl, rfl⟩
            · exact idx_two0 _ _ w0
            · exact idx_two1 _ _ w0
          have hj1 : j < 2 := by omega
          obtain ⟨M, hM⟩ : ∃ M, M = L ++ kpart x1 x2 (j + 1) := ⟨_, rfl⟩
          have HME : Hid (K ++ [32] ++ Lib.itoa y = M) := by show _ = _; rw [hM, HY3.out, HKK.out, List.append_assoc, List.append_assoc, List.append_assoc]
          have HM := hid hM
          clear hM hjy
          go_wp2_with (at_builtin; refine wpList_append_row rfl _ _ 79 rfl (w.heap.size + 1) 5 i0 (.int .u8 0) 1 1 Tryd.underlying79 hi hz0 hz1 hz2 rfl (by decide) _ m (Lib.byteCells K) rfl ?c0 ⟨wr.heap.size, 0, none⟩ 1 1 [.int .u8 32] rfl rfl ?c1 ?c2 ?c3 ?c4 ?c5 (by decide) ?_)
          case c0 =>
            have h9 := HG.out.2.1.keep (w' := wr.alloc (.cells #[.int .u8 32] 5)) ((Below.refl _ _).alloc (Nat.le_refl _) _)
            unfold OwnB at h9
            rw [← HG.out.1] at h9
            exact h9
          case c1 =>
            intro j u hj
            rw [Addr.add_lit, Nat.zero_add]
            exact (Row.new (w := wr) (cs := [.int .u8 32]) (T := 5) rfl).cell j ▸ hj
          case c2 => intro u hu; simp at hu; subst hu; rfl
          case c3 => have := HG.out.1; unfold maxLen; omega
          case c4 => have := HG.out.1; omega
          case c5 => have := HG.out.2.2.1.lt; simp; omega
          intro a2 c2 w3 hown hgrow hnw
          have hal : Below wr.heap.size wr (wr.alloc (.cells #[.int .u8 32] 5)) := (Below.refl _ _).alloc (Nat.le_refl _) _
          have hb3 : Below w.heap.size w w3 := (HG.out.2.2.2.trans (hal.mono hsz)).grown hgrow (Nat.le_trans hsz hal.size) fun g hg => by
            have := (World.ownsRow.lt HG.out.2.1 g hg).1
            omega
          have hr3 : Row w3 w.heap.size _ _ := (hgrow.block w.heap.size (by have := HG.out.2.2.1.lt; simp; omega) (fun e => by have := (World.ownsRow.lt HG.out.2.1 _ e.symm).1; omega)).trans (HG.out.2.2.1.below hal HG.out.2.2.1.lt)
          have ho3 : OwnB w3 (w.heap.size + 1) (.slice a2 (m + 1) c2) (K ++ [32]) := by
            unfold OwnB
            rw [show (K ++ [(32 : UInt8)] : List UInt8).length = m + 1 from by rw [List.length_append, HG.out.1]; rfl, show Lib.byteCells (K ++ [(32 : UInt8)]) = Lib.byteCells K ++ [.int .u8 32] from by unfold Lib.byteCells; rw [List.map_append]; rfl]
            exact hown
          have HN3 := hid (⟨ho3, hr3, hb3⟩ : _ ∧ _ ∧ _)
          have HC := hid (pappend_int w3 (w.heap.size + 1) (.slice a2 (m + 1) c2) (K ++ [32]) y ho3 (by omega) (by omega) (by have := hr3.lt; omega) (by simp; omega) (HT.out.on hb3))
          clear hown hgrow hnw hal hb3 hr3 ho3
          go_wp2_with fail
          refine HC.out.mono ?_
          rintro e w4 ⟨v4, rfl, ho4, hb4⟩
          obtain ⟨a4, c4, rfl⟩ := ho4.shape
          rw [HME.out] at ho4 ⊢
          have HZ4 : Hid (KeyL w q.1 (.slice (some ⟨b, 0, none⟩) n sc) M (.slice a4 M.length c4) w4) := ⟨ho4, HN3.out.2.1.below hb4 (by omega), HN3.out.2.2.trans (hb4.mono (by omega))⟩
          obtain ⟨m4, hm4⟩ : ∃ m4, m4 = M.length := ⟨_, rfl⟩
          rw [← hm4] at HZ4 ⊢
          have HZ5 : Hid (m4 = (L ++ kpart x1 x2 (j + 1)).length ∧ KeyL w q.1 (.slice (some ⟨b, 0, none⟩) n sc) (L ++ kpart x1 x2 (j + 1)) (.slice a4 m4 c4) w4) := by
            show _ ∧ _
            rw [← HM.out]
            exact ⟨hm4, HZ4.out⟩
          clear ho4 hb4 hm4 HC HN3 HG HZ4
          go_wp2_with fail
          refine ⟨⟨j + 1, a4, m4, c4, rfl, by go_num, by omega, HZ5.out⟩, ?_⟩
          simp [intOf] <;> omega
    · obtain rfl : k = n := by omega
      have hltI : ¬ (k : Int) < (k : Int) := by omega
      have htk : q.2.take k = q.2 := by rw [HN.out]; exact List.take_length
      rw [htk] at h0 h1
      have hne : Lib.itoa q.1 ++ keyMore (spNums q.2) ≠ [] := by
        intro e
        have h5 := (List.append_eq_nil_iff.1 e).1
        have h6 : Lib.itoa (q.1 : Int) = Lib.decDigits q.1 := Lib.itoa_nonneg q.1
        rw [h6, Lib.decDigits] at h5
        split at h5 <;> simp at h5
      have hcv := h1.conv h0 hne
      have HB := hid h3
      clear h0 h1 h2 h3 htk hne HY
      go_wp2_with fail
      go_ret
      exact ⟨rfl, HB.out⟩
end Go.Proofs.YtkinnfejgpnddaaDoor

/- Appends to long lists of parses. -/
namespace Go.Proofs.YtkinnfejgpnddaaDoor
open Go.RowKit
attribute [local go_sem] gives givesUpon
theorem wpList_append_psB {ops : Array Oper} {rest : List Oper} {o : Oper} {a : Act} {w : World} {Q : Exit → Act → World → Prop} (hgd : o.guard = none) (s x : Operand)
    (ho : o.op = .call { callee := .builtin .append, args := #[s, x], argTypes := #[33, 33] }) (base : Nat) (v : Value) (l m : List Parse) (p : Nat → Prop) (u : Value) (hs : a.eval s = v) (hown : OwnP w base v l) (hx : a.eval x = u) (hsrc : PsQ p w u m)
    (hsz : l.length + m.length ≤ 40000000) (hbase : base ≤ w.heap.size)
    (h : ∀ a' n' c' w', n' = (l ++ m).length → OwnP w' base (.slice a' n' c') (l ++ m) → w.grownBy w' v.ownBlock → (∀ g, (Value.slice a' n' c').ownBlock = some g → v.ownBlock = some g ∨ w.heap.size ≤ g) → wpList Tryd.prog ops Q rest (a.put o.dst (.slice a' n' c')) w') : wpList Tryd.prog ops Q (o :: rest) a w := by
  obtain ⟨i0, hi, hz0, hz1, hz2⟩ := info_parts info_parse
  obtain ⟨h0, L, h1, h2, h3⟩ := hown
  rcases hsrc with ⟨rfl, rfl⟩ | ⟨hm, b, c, more, M, rfl, hp, k1, k2, k3⟩
  · refine wpList_append_own_none hgd s x 33 ho base 48 i0 2 Tryd.underlying33 hi v l.length (L.flatMap pcell) hs h3 hx ?_
    obtain ⟨a', c', e⟩ := ownsRow_shape h3
    have := h a' l.length c' w (by simp) (by rw [List.append_nil, ← e]; exact ⟨h0, L, h1, h2, h3⟩) ⟨rfl, rfl, rfl, Nat.le_refl _, fun _ _ _ => rfl⟩ (by rw [← e]; exact fun g hg => .inl hg)
    rw [← e] at this
    exact this
  · have hml : m.length = M.length := by rw [← k1]; simp
    refine wpList_append_row hgd s x 33 ho base 48 i0 (.agg #[.int .i64 0, .slice none 0 0]) 2 32 Tryd.underlying33 hi hz0 hz1 hz2 rfl (by decide) v l.length (L.flatMap pcell) hs h3 ⟨b, 0, none⟩ m.length c (M.flatMap pcell) hx (by rw [pcells_length, hml]) ?_ k2.one (by unfold maxLen; omega) (by omega) hbase (List.length_pos_iff.2 hm) fun a' c' w' g1 g2 g3 => ?_
    · intro j u hj
      rw [Addr.add_lit, Nat.zero_add, k3.cell j]
      exact List.getElem?_append_left (List.getElem?_eq_some_iff.1 hj).1 ▸ hj
    · exact h a' _ c' w' (List.length_append).symm (OwnP.app hm h1 k1 h2 k2 h3 g1 g2 rfl) g2 g3
end Go.Proofs.YtkinnfejgpnddaaDoor

/- The program of layer 9: each parse once. -/
namespace Go.Proofs.YtkinnfejgpnddaaDoor
open Go.RowKit
attribute [local go_sem] gives givesUpon

/-- The panic of a search that has too many parses. -/
def exhV : Value := .iface 81 (.agg #[])
def exh : List PanicEntry := [{ v := exhV, recovered := false }]
/-- What a function that lists parses leaves: the list, or the panic. -/
def ParP (w : World) (r : Option (List Parse)) (e : Ending) (w' : World) : Prop :=
  Below w.heap.size w w' ∧ match r with
    | some l => ∃ a c, e = .returned (.slice a l.length c) ∧ PsQ (w.heap.size ≤ ·) w' (.slice a l.length c) l
    | none => e = .panicked exh
/-- Parses whose text can be written. -/
def PFine (q : Parse) : Prop := q.2.length ≤ 9 ∧ q.1 ≤ 1000000 ∧ ∀ x, x ∈ q.2 → -1 ≤ x.1 ∧ x.1 ≤ 1000000 ∧ -1 ≤ x.2 ∧ x.2 ≤ 1000000
theorem POk.fine {N L i : Nat} {q : Parse} (h : POk N L i q) (hN : N ≤ 9) (hL : L ≤ 1000000) : PFine q := by
  refine ⟨by have := h.2.2.1; omega, by have := h.2.1; omega, fun x hx => ?_⟩
  rcases h.2.2.2 x hx with rfl | h1
  · simp
  · omega
theorem nub_le9 (l : List Parse) : (nub l).length ≤ l.length := by
  unfold nub
  suffices h : ∀ (l m : List Parse), (l.foldl addP m).length ≤ l.length + m.length by simpa using h l []
  intro l
  induction l with
  | nil => intro m; simp
  | cons p l ih =>
    intro m
    have := ih (addP m p)
    have h2 : (addP m p).length ≤ m.length + 1 := by unfold addP; split <;> simp
    rw [List.foldl_cons, List.length_cons]
    omega
/-- What once hands out. -/
def onceR (l : List Parse) : Option (List Parse) := if most < (nub l).length then none else some (nub l)
/-- What the loop of once keeps. -/
def OnceL (w : World) (l : List Parse) (_v : Value) (k : Nat) (a : Option Addr) (m c : Nat) (wr : World) : Prop :=
  m = (nub (l.take k)).length ∧ OwnP wr w.heap.size (.slice a m c) (nub (l.take k)) ∧ KSet strV wr w.heap.size ((nub (l.take k)).map keyB) ∧ Below w.heap.size w wr
set_option maxRecDepth 100000 in
set_option maxHeartbeats 8000000 in
theorem ponce_big (w : World) (p : Nat → Prop) (v : Value) (l : List Parse) (h : PsQ p w v l) (hl : l.length ≤ 20000000) (hf : ∀ q, q ∈ l → PFine q) (ht : Tabs9 w) :
    Calls Tryd.prog 67 #[v] w (ParP w (onceR l)) := by
  obtain ⟨sa, sc, rfl⟩ := h.form
  obtain ⟨n, hn⟩ : ∃ n, n = l.length := ⟨_, rfl⟩
  have HN := hid hn
  have hn2 : n ≤ 20000000 := by omega
  rw [← hn] at h ⊢
  have HP := hid h
  have HF := hid hf
  have HT := hid ht
  have hmm := @run_makeMap Tryd.prog
  clear h hf ht hn hl
  go_enter Tryd.func67, Tryd.ntmps67
  go_wp2_with fail
  go_loopw [4, 11] (fun v4 v11 wr => ∃ (k : Nat) (a : Option Addr) (m c : Nat), v4 = .slice a m c ∧ v11 = .int .i64 k ∧ k ≤ n ∧ Hid (OnceL w l (.slice sa n sc) k a m c wr)) (fun _ v11 _ => n - (intOf v11).toNat)
  case atStart =>
    exact ⟨0, none, 0, 0, rfl, rfl, Nat.zero_le _, rfl, OwnP.nil _ _, KSet.new rfl, (Below.refl _ _).alloc (Nat.le_refl _) _⟩
  case round =>
    obtain ⟨k, a, m, c, rfl, rfl, hk, HX⟩ := hrel
    obtain ⟨h0, h1, h2, h3⟩ := HX.out
    by_cases hlt : k < n
    · have hltI : (k : Int) < (n : Int) := by omega
      obtain ⟨b, cc, u1, u2, ua, uc, hq, ev, hb, hbp, -, p0, p1, hsq⟩ := (HP.out.of (fun _ _ hr => hr.below h3 hr.lt) (fun _ _ hp hr => ⟨hr.below h3 hr.lt, hp⟩) : PsQ p wr _ l).get (k := k) (by have := HN.out; omega)
      injection ev with e1 e2 e3
      subst e1; subst e3
      clear e2
      have hfq := HF.out (u1, u2) (List.mem_of_getElem? hq)
      have hml : m ≤ 20000000 := by
        have h4 := nub_le9 (l.take k)
        rw [List.length_take] at h4
        omega
      have hal : Below wr.heap.size wr (wr.alloc (.cells #[.int .i64 u1, .slice ua u2.length uc] 48)) := (Below.refl _ _).alloc (Nat.le_refl _) _
      have HY := hid (⟨h0, h1.below hal, h2.below hal, h3.trans (hal.mono h3.size), Row.new (w := wr) (cs := [.int .i64 u1, .slice ua u2.length uc]) (T := 48) rfl, hsq.below hal⟩ : m = (nub (l.take k)).length ∧ OwnP _ _ _ _ ∧ KSet _ _ _ _ ∧ Below w.heap.size w (wr.alloc (.cells #[.int .i64 u1, .slice ua u2.length uc] 48)) ∧ Row _ wr.heap.size _ _ ∧ SpQ _ _ _)
      have HKEY := hid (pkey_any (wr.alloc (.cells #[.int .i64 u1, .slice ua u2.length uc] 48)) (u1, u2) ua uc HY.out.2.2.2.2.2 hfq.1 hfq.2.1 hfq.2.2 (HT.out.below HY.out.2.2.2.1 HT.out.big))
      have HQ := hid hq
      clear h0 h1 h2 h3 hal hq hsq hfq hbp HX
      go_wp2_with fail
      refine HKEY.out.mono ?_
      rintro e z ⟨rfl, hbz⟩
      have HZ := hid (⟨HY.out.1, HY.out.2.1.below hbz, HY.out.2.2.1.below hbz, HY.out.2.2.2.1.trans (hbz.mono HY.out.2.2.2.1.size), HY.out.2.2.2.2.1.below hbz HY.out.2.2.2.2.1.lt, HY.out.2.2.2.2.2.below hbz⟩ : m = (nub (l.take k)).length ∧ OwnP _ _ _ _ ∧ KSet _ _ _ _ ∧ Below w.heap.size w z ∧ Row _ wr.heap.size _ _ ∧ SpQ _ _ _)
      clear hbz HKEY HY p0 p1
      have q0 := HZ.out.2.2.2.2.1.cell 0
      have q1 := HZ.out.2.2.2.2.1.cell 1
      have HSTEP : Hid (nub (l.take (k + 1)) = addP (nub (l.take k)) (u1, u2)) := by show _ = _; rw [List.take_add_one, HQ.out]; exact nub_snoc _ _
      by_cases hm : (u1, u2) ∈ nub (l.take k)
      · have hd : decide (keyB (u1, u2) ∈ (nub (l.take k)).map keyB) = true := decide_eq_true (keyB_mem.2 hm)
        have HN2 : Hid (OnceL w l (.slice (some ⟨b, 0, none⟩) n sc) (k + 1) a m c z) := by
          have e : nub (l.take (k + 1)) = nub (l.take k) := by rw [HSTEP.out]; unfold addP; rw [if_pos hm]
          unfold OnceL Hid
          rw [e]
          exact ⟨HZ.out.1, HZ.out.2.1, HZ.out.2.2.1, HZ.out.2.2.2.1⟩
        have HKS := hid HZ.out.2.2.1
        clear hm HZ HSTEP
        go_wp2_with (with_reducible (refine wpList_lookup_kset rfl 111 _ _ rfl HKS.out rfl (keyB (u1, u2)) rfl 9 4 Tryd.underlying111 (KeyLaw.str Tryd.underlying9) (by kernel_rfl) ?_))
        refine ⟨⟨k + 1, a, m, c, rfl, by go_num, by omega, HN2.out⟩, ?_⟩
        simp [intOf] <;> omega
      · have hd : decide (keyB (u1, u2) ∈ (nub (l.take k)).map keyB) = false := decide_eq_false (fun h => hm (keyB_mem.1 h))
        have he : nub (l.take (k + 1)) = nub (l.take k) ++ [(u1, u2)] := by rw [HSTEP.out]; unfold addP; rw [if_neg hm]
        have HE := hid he
        have HM := hid hm
        clear hm he HSTEP
        have HKS := hid HZ.out.2.2.1
        have hnk : keyB (u1, u2) ∉ (nub (l.take k)).map keyB := fun h => HM.out (keyB_mem.1 h)
        go_upto_region 9 with (first
          | (with_reducible (refine wpList_lookup_kset rfl 111 _ _ rfl HKS.out rfl (keyB (u1, u2)) rfl 9 4 Tryd.underlying111 (KeyLaw.str Tryd.underlying9) (by kernel_rfl) ?_))
          | (with_reducible (refine wpList_update_kset rfl 111 _ _ _ rfl HKS.out rfl (keyB (u1, u2)) rfl hnk rfl 9 4 Tryd.underlying111 (KeyLaw.str Tryd.underlying9) ?_); intro w5 hks5 hb5))
        have hnw : w.heap.size < z.heap.size := HKS.out.lt
        have hrb := HZ.out.2.2.2.2.1.but hb5 (by simp; intro e; exact HKS.out.row (e ▸ HZ.out.2.2.2.2.1))
        have hsp5 : SpQ w5 (.slice ua u2.length uc) u2 := HZ.out.2.2.2.2.2.but hb5 (fun b8 cs8 hr8 hm8 => by rw [List.mem_singleton.1 hm8] at hr8; exact HKS.out.row hr8)
        have hop5 : OwnP w5 w.heap.size (.slice a m c) (nub (l.take k)) := HZ.out.2.1.keep (fun b8 cs8 hr8 => hr8.but hb5 (fun hm8 => by rw [List.mem_singleton.1 hm8] at hr8; exact HKS.out.row hr8)) (fun g hg => hb5.block g (HZ.out.2.1.lt g hg).2 (fun hm8 => by
          obtain ⟨cs8, hr8⟩ := HZ.out.2.1.row hg
          rw [List.mem_singleton.1 hm8] at hr8
          exact HKS.out.row hr8))
        have H5 := hid (⟨hop5, hks5, HZ.out.2.2.2.1.trans (hb5.below (Nat.le_of_lt hnw) (fun k hk => by rw [List.mem_singleton.1 hk]; exact Nat.le_refl _)), hrb, hsp5⟩ : OwnP _ _ _ _ ∧ KSet _ _ _ _ ∧ Below w.heap.size w w5 ∧ Row _ _ _ _ ∧ SpQ _ _ _)
        have q2 := H5.out.2.2.2.1.cell 0
        have q3 := H5.out.2.2.2.1.cell 1
        have HML5 := hid HZ.out.1
        have hsz5 := H5.out.2.2.1.size
        clear hrb hsp5 hop5 hks5 hb5 q0 q1 hnk hd
        go_wp2_with (at_builtin; refine wpList_append_psB rfl _ _ rfl w.heap.size _ (nub (l.take k)) [(u1, u2)] _ _ rfl ?c0 rfl (PsQ.lit (Row.new rfl) ?c1) ?c2 ?c3 ?_)
        case c0 => exact H5.out.1.below ((Below.refl _ _).alloc (Nat.le_refl _) _)
        case c1 => exact H5.out.2.2.2.2.below ((Below.refl _ _).alloc (Nat.le_refl _) _)
        case c2 => rw [← HML5.out]; simp; omega
        case c3 => simp; omega
        intro a2 n2 c2 w6 hn6 hown6 hg6 hnew6
        have hn7 : n2 = (nub (l.take (k + 1))).length := by rw [HE.out, List.length_append]; exact hn6
        rw [← HE.out] at hown6
        have hal : Below w5.heap.size w5 (w5.alloc (.cells #[.int .i64 u1, .slice ua u2.length uc] 48)) := (Below.refl _ _).alloc (Nat.le_refl _) _
        have hk6 : KSet strV w6 w.heap.size ((nub (l.take (k + 1))).map keyB) := by
          rw [HE.out, List.map_append]
          exact (H5.out.2.1.below hal).of_block (hg6.block w.heap.size (Nat.lt_of_lt_of_le H5.out.2.1.lt hal.size) (fun e => by
            obtain ⟨cs8, hr8⟩ := H5.out.1.row e.symm
            exact H5.out.2.1.row hr8))
        have hb6 : Below w.heap.size w w6 := (H5.out.2.2.1.trans (hal.mono hsz5)).grown hg6 (Nat.le_trans hsz5 hal.size) fun g hg => (H5.out.1.lt g hg).1
        have HFIN : Hid (OnceL w l (.slice (some ⟨b, 0, none⟩) n sc) (k + 1) a2 n2 c2 w6) := ⟨hn7, hown6, hk6, hb6⟩
        clear hn6 hn7 hown6 hg6 hnew6 hal hk6 hb6
        go_wp2_with fail
        refine ⟨⟨k + 1, a2, n2, c2, rfl, by go_num, by omega, HFIN.out⟩, ?_⟩
        simp [intOf] <;> omega
    · obtain rfl : k = n := by omega
      have hltI : ¬ (k : Int) < (k : Int) := by omega
      have htk : l.take k = l := by rw [HN.out]; exact List.take_length
      rw [htk] at h0 h1
      have hml : m ≤ 20000000 := by
        have h4 := nub_le9 l
        have := HN.out
        omega
      by_cases hov : most < (nub l).length
      · have hov2 : (4096 : Int) < (m : Int) := by unfold most at hov; omega
        have HR : Hid (onceR l = none) := by show _ = _; unfold onceR; rw [if_pos hov]
        have HB := hid h3
        clear h0 h1 h2 h3 htk HX hov
        go_wp2_with fail
        refine ⟨rfl, ?_⟩
        rw [HR.out]
        exact ⟨HB.out, rfl⟩
      · have hov2 : ¬ (4096 : Int) < (m : Int) := by unfold most at hov; omega
        have HR : Hid (onceR l = some (nub l)) := by show _ = _; unfold onceR; rw [if_neg hov]
        have HB := hid (⟨h0, h1, h3⟩ : _ ∧ _ ∧ _)
        clear h0 h1 h2 h3 htk HX hov
        go_wp2_with fail
        go_ret
        rw [HR.out]
        refine ⟨HB.out.2.2, a, c, by rw [← HB.out.1]; rfl, ?_⟩
        rw [← HB.out.1]
        exact HB.out.2.1.psq.mono fun b8 _ hb8 => hb8.1
theorem ponce_any (w : World) (p : Nat → Prop) (v : Value) (l : List Parse) (h : PsQ p w v l) (hl : l.length ≤ 200000) (hf : ∀ q, q ∈ l → PFine q) (ht : Tabs9 w) :
    Calls Tryd.prog 67 #[v] w (ParP w (onceR l)) := ponce_big w p v l h (by omega) hf ht
end Go.Proofs.YtkinnfejgpnddaaDoor

/- A sort that keeps the order of equals, plainly. -/
namespace Go.Proofs.YtkinnfejgpnddaaDoor

section
variable {α : Type} {key : α → Int}
/-- Greater keys first. -/
def Desc (key : α → Int) (l : List α) : Prop := l.Pairwise fun x y => key y ≤ key x
/-- Elements of one key stand in the same order. -/
def SameF (key : α → Int) (l m : List α) : Prop := ∀ e : Int, (l.filter fun x => key x == e) = m.filter fun x => key x == e
theorem SameF.refl (l : List α) : SameF key l l := fun _ => rfl
theorem SameF.symm {l m : List α} (h : SameF key l m) : SameF key m l := fun e => (h e).symm
theorem SameF.trans {l m n : List α} (h : SameF key l m) (k : SameF key m n) : SameF key l n := fun e => (h e).trans (k e)
theorem SameF.append {a b c d : List α} (h : SameF key a b) (k : SameF key c d) : SameF key (a ++ c) (b ++ d) := fun e => by rw [List.filter_append, List.filter_append, h e, k e]
theorem SameF.mem {l m : List α} (h : SameF key l m) {x : α} (hx : x ∈ l) : x ∈ m := by
  have h1 : x ∈ l.filter fun y => key y == key x := List.mem_filter.2 ⟨hx, by simp⟩
  rw [h] at h1
  exact (List.mem_filter.1 h1).1
theorem SameF.swap {v w : List α} (h : ∀ x, x ∈ v → ∀ y, y ∈ w → key x ≠ key y) : SameF key (v ++ w) (w ++ v) := by
  intro e
  rw [List.filter_append, List.filter_append]
  by_cases hv : ∃ x, x ∈ v ∧ key x = e
  · obtain ⟨x, hx, rfl⟩ := hv
    have : (w.filter fun y => key y == key x) = [] := by
      rw [List.filter_eq_nil_iff]
      intro y hy
      have := h x hx y hy
      simpa using fun h => this h.symm
    rw [this]; simp
  · have : (v.filter fun y => key y == e) = [] := by
      rw [List.filter_eq_nil_iff]
      intro y hy
      simpa using fun h => hv ⟨y, hy, h⟩
    rw [this]; simp
theorem SameF.length {l m : List α} (h : SameF key l m) : l.length = m.length := by
  induction l generalizing m with
  | nil =>
    cases m with
    | nil => rfl
    | cons y m => have := h.symm.mem (x := y) (by simp); cases this
  | cons x l ih =>
    have h1 := h (key x)
    obtain ⟨a, b, e⟩ : ∃ a b, m = a ++ x :: b ∧ ∀ y, y ∈ a → key y ≠ key x := by
      have : ∃ r, (m.filter fun y => key y == key x) = x :: r := ⟨_, by rw [← h1]; simp; rfl⟩
      obtain ⟨r, hr⟩ := this
      rw [List.filter_eq_cons_iff] at hr
      obtain ⟨a, b, e1, e2, e3, e4⟩ := hr
      exact ⟨a, b, e1, fun y hy => by have := e2 y hy; simpa using this⟩
    obtain ⟨rfl, ha⟩ := e
    have : SameF key l (a ++ b) := by
      intro e
      have h2 := h e
      simp only [List.filter_append, List.filter_cons] at h2 ⊢
      by_cases hk : key x = e
      · subst hk
        have : (a.filter fun y => key y == key x) = [] := by
          rw [List.filter_eq_nil_iff]; intro y hy; simpa using ha y hy
        simp only [this, beq_self_eq_true, if_true, List.nil_append, List.cons.injEq, true_and] at h2 ⊢
        exact h2
      · have hb : (key x == e) = false := by simpa using hk
        simp only [hb] at h2
        exact h2
    rw [List.length_cons, ih this]; simp; omega
theorem Desc.append {a b : List α} (h : Desc key a) (k : Desc key b) (hab : ∀ x, x ∈ a → ∀ y, y ∈ b → key y ≤ key x) : Desc key (a ++ b) := List.pairwise_append.2 ⟨h, k, hab⟩
theorem Desc.left {a b : List α} (h : Desc key (a ++ b)) : Desc key a := (List.pairwise_append.1 h).1
theorem Desc.right {a b : List α} (h : Desc key (a ++ b)) : Desc key b := (List.pairwise_append.1 h).2.1
theorem Desc.cross {a b : List α} (h : Desc key (a ++ b)) {x y : α} (hx : x ∈ a) (hy : y ∈ b) : key y ≤ key x := (List.pairwise_append.1 h).2.2 x hx y hy
/-- The last of a, and the first of b: all of a and b. -/
theorem Desc.ends {a b c d : List α} (h : Desc key (a ++ b)) (k : Desc key (c ++ d)) (r : a = [] ∨ d = [] ∨ ∃ x y, a.getLast? = some x ∧ d.head? = some y ∧ key y ≤ key x) : ∀ x, x ∈ a → ∀ y, y ∈ d → key y ≤ key x := by
  intro x hx y hy
  rcases r with rfl | rfl | ⟨x0, y0, h1, h2, h3⟩
  · cases hx
  · cases hy
  · have hxx : key x0 ≤ key x := by
      obtain ⟨a', rfl⟩ := List.getLast?_eq_some_iff.1 h1
      rcases List.mem_append.1 hx with h4 | h4
      · exact h.left.cross h4 (by simp)
      · have := List.mem_singleton.1 h4; subst this; exact Int.le_refl _
    have hyy : key y ≤ key y0 := by
      cases d with
      | nil => cases hy
      | cons d0 d =>
        simp at h2; subst h2
        rcases List.mem_cons.1 hy with h4 | h4
        · subst h4; exact Int.le_refl _
        · exact (List.pairwise_cons.1 k.right).1 y h4
    omega
/-- The two parts of a symmetric merge. -/
theorem merge_parts {u v w z M1 M2 : List α} (h1 : Desc key (u ++ v)) (h2 : Desc key (w ++ z)) (hu : u = [] ∨ z = [] ∨ ∃ x y, u.getLast? = some x ∧ z.head? = some y ∧ key y ≤ key x)
    (hv : v = [] ∨ w = [] ∨ ∃ x y, v.head? = some x ∧ w.getLast? = some y ∧ key x < key y) (hM1 : Desc key M1) (hM2 : Desc key M2) (hs1 : SameF key (u ++ w) M1) (hs2 : SameF key (v ++ z) M2) :
    Desc key (M1 ++ M2) ∧ SameF key (u ++ v ++ (w ++ z)) (M1 ++ M2) := by
  have huz := Desc.ends h1 h2 hu
  have hvw : ∀ x, x ∈ v → ∀ y, y ∈ w → key x < key y := by
    intro x hx y hy
    rcases hv with rfl | rfl | ⟨x0, y0, e1, e2, e3⟩
    · cases hx
    · cases hy
    · have hxx : key x ≤ key x0 := by
        cases v with
        | nil => cases hx
        | cons d0 d =>
          simp at e1; subst e1
          rcases List.mem_cons.1 hx with h4 | h4
          · subst h4; exact Int.le_refl _
          · exact (List.pairwise_cons.1 h1.right).1 x h4
      have hyy : key y0 ≤ key y := by
        obtain ⟨a', rfl⟩ := List.getLast?_eq_some_iff.1 e2
        rcases List.mem_append.1 hy with h4 | h4
        · exact h2.left.cross h4 (by simp)
        · have := List.mem_singleton.1 h4; subst this; exact Int.le_refl _
      omega
  refine ⟨hM1.append hM2 fun x hx y hy => ?_, ?_⟩
  · have hx' := hs1.symm.mem hx
    have hy' := hs2.symm.mem hy
    rcases List.mem_append.1 hx' with hx' | hx' <;> rcases List.mem_append.1 hy' with hy' | hy'
    · exact h1.cross hx' hy'
    · exact huz x hx' y hy'
    · have := hvw y hy' x hx'; omega
    · exact h2.cross hx' hy'
  · have e1 : u ++ v ++ (w ++ z) = u ++ ((v ++ w) ++ z) := by simp
    have e2 : SameF key (u ++ ((v ++ w) ++ z)) (u ++ ((w ++ v) ++ z)) := (SameF.refl _).append ((SameF.swap fun x hx y hy => by have := hvw x hx y hy; omega).append (SameF.refl _))
    rw [e1]
    refine e2.trans ?_
    rw [show u ++ ((w ++ v) ++ z) = (u ++ w) ++ (v ++ z) by simp]
    exact hs1.append hs2
/-- One element, put into a list behind those that stand before it. -/
theorem insert_left {x : α} {a b : List α} (h : Desc key (a ++ b)) (ha : a = [] ∨ ∃ y, a.getLast? = some y ∧ key x < key y) (hb : b = [] ∨ ∃ y, b.head? = some y ∧ key y ≤ key x) : Desc key (a ++ x :: b) ∧ SameF key (x :: (a ++ b)) (a ++ x :: b) := by
  have hax : ∀ y, y ∈ a → key x < key y := by
    intro y hy
    rcases ha with rfl | ⟨y0, h1, h2⟩
    · cases hy
    · obtain ⟨a', rfl⟩ := List.getLast?_eq_some_iff.1 h1
      rcases List.mem_append.1 hy with h4 | h4
      · have := h.left.cross h4 (y := y0) (by simp); omega
      · have := List.mem_singleton.1 h4; subst this; exact h2
  have hbx : ∀ y, y ∈ b → key y ≤ key x := by
    intro y hy
    rcases hb with rfl | ⟨y0, h1, h2⟩
    · cases hy
    · cases b with
      | nil => cases hy
      | cons d0 d =>
        simp at h1; subst h1
        rcases List.mem_cons.1 hy with h4 | h4
        · subst h4; exact h2
        · have := (List.pairwise_cons.1 h.right).1 y h4; omega
  refine ⟨h.left.append (List.pairwise_cons.2 ⟨hbx, h.right⟩) fun y hy z hz => ?_, ?_⟩
  · rcases List.mem_cons.1 hz with rfl | hz
    · have := hax y hy; omega
    · exact h.cross hy hz
  · have e := SameF.swap (key := key) (v := [x]) (w := a) (fun y hy z hz => by have := List.mem_singleton.1 hy; subst this; have := hax z hz; omega)
    have := e.append (SameF.refl b)
    simpa using this
theorem insert_right {x : α} {a b : List α} (h : Desc key (a ++ b)) (ha : a = [] ∨ ∃ y, a.getLast? = some y ∧ key x ≤ key y) (hb : b = [] ∨ ∃ y, b.head? = some y ∧ key y < key x) : Desc key (a ++ x :: b) ∧ SameF key (a ++ b ++ [x]) (a ++ x :: b) := by
  have hax : ∀ y, y ∈ a → key x ≤ key y := by
    intro y hy
    rcases ha with rfl | ⟨y0, h1, h2⟩
    · cases hy
    · obtain ⟨a', rfl⟩ := List.getLast?_eq_some_iff.1 h1
      rcases List.mem_append.1 hy with h4 | h4
      · have := h.left.cross h4 (y := y0) (by simp); omega
      · have := List.mem_singleton.1 h4; subst this; exact h2
  have hbx : ∀ y, y ∈ b → key y < key x := by
    intro y hy
    rcases hb with rfl | ⟨y0, h1, h2⟩
    · cases hy
    · cases b with
      | nil => cases hy
      | cons d0 d =>
        simp at h1; subst h1
        rcases List.mem_cons.1 hy with h4 | h4
        · subst h4; exact h2
        · have := (List.pairwise_cons.1 h.right).1 y h4; omega
  refine ⟨h.left.append (List.pairwise_cons.2 ⟨fun y hy => by have := hbx y hy; omega, h.right⟩) fun y hy z hz => ?_, ?_⟩
  · rcases List.mem_cons.1 hz with rfl | hz
    · exact hax y hy
    · exact h.cross hy hz
  · have e := SameF.swap (key := key) (v := b) (w := [x]) (fun y hy z hz => by have := List.mem_singleton.1 hz; subst this; have := hbx y hy; omega)
    have := (SameF.refl a).append e
    simpa using this
end
end Go.Proofs.YtkinnfejgpnddaaDoor

/- The program of layer 9: the sort that keeps the order of equals: a row of parses in memory. -/
namespace Go.Proofs.YtkinnfejgpnddaaDoor
open Go.RowKit
attribute [local go_sem] gives givesUpon

/-- A parse, and where its spans lie. -/
abbrev Zel := Parse × (Option Addr × Nat × Nat)
def zcell (z : Zel) : List Value := [.int .i64 z.1.1, .slice z.2.1 z.2.2.1 z.2.2.2]
def zkey (z : Zel) : Int := z.1.1
theorem zcells_length (L : List Zel) : (L.flatMap zcell).length = L.length * 2 := by
  induction L with
  | nil => rfl
  | cons z L ih => rw [List.flatMap_cons, List.length_append, ih, List.length_cons]; show 2 + _ = _; omega
theorem zcells_get : ∀ (L : List Zel) (k : Nat) (z : Zel), L[k]? = some z → (L.flatMap zcell)[k * 2]? = some (.int .i64 z.1.1) ∧ (L.flatMap zcell)[k * 2 + 1]? = some (.slice z.2.1 z.2.2.1 z.2.2.2)
  | [], k, z, h => by simp at h
  | y :: L, 0, z, h => by
    have := Option.some.inj h
    subst this
    exact ⟨rfl, rfl⟩
  | y :: L, k + 1, z, h => by
    obtain ⟨h1, h2⟩ := zcells_get L k z (by simpa using h)
    have e : (y :: L).flatMap zcell = .int .i64 y.1.1 :: .slice y.2.1 y.2.2.1 y.2.2.2 :: L.flatMap zcell := rfl
    rw [e, show (k + 1) * 2 = k * 2 + 1 + 1 by omega]
    exact ⟨by simpa using h1, by simpa using h2⟩
theorem zcells_set : ∀ (L : List Zel) (k : Nat) (z : Zel) (more : List Value), k < L.length → ((L.flatMap zcell ++ more).set (k * 2) (.int .i64 z.1.1)).set (k * 2 + 1) (.slice z.2.1 z.2.2.1 z.2.2.2) = (L.set k z).flatMap zcell ++ more
  | [], k, z, more, h => by simp at h
  | y :: L, 0, z, more, h => rfl
  | y :: L, k + 1, z, more, h => by
    have ih := zcells_set L k z more (by simpa using h)
    have e : (y :: L).flatMap zcell ++ more = .int .i64 y.1.1 :: .slice y.2.1 y.2.2.1 y.2.2.2 :: (L.flatMap zcell ++ more) := rfl
    rw [e, show (k + 1) * 2 = k * 2 + 1 + 1 by omega]
    simp only [List.set_cons_succ]
    rw [ih]
    rfl
/-- A row of parses, as a sort finds it. -/
def SrtAt (w0 : World) (b n : Nat) (more : List Value) (L : List Zel) (w : World) : Prop := Row w b (L.flatMap zcell ++ more) 48 ∧ But [b] w0 w ∧ L.length = n ∧ b < w0.heap.size
section
variable {w0 w x : World} {b n : Nat} {more : List Value} {L : List Zel}
theorem SrtAt.later (h : SrtAt w0 b n more L w) (hb : Below w.heap.size w x) : SrtAt w0 b n more L x := ⟨h.1.below hb h.1.lt, h.2.1.later (But.of_below hb : But [b] w x) (fun _i hi => .inl hi), h.2.2⟩
theorem SrtAt.cells (h : SrtAt w0 b n more L w) {k : Nat} {z : Zel} (hz : L[k]? = some z) : w.cell? ⟨b, k * 2, none⟩ = some (.int .i64 z.1.1) ∧ w.cell? ⟨b, k * 2 + 1, none⟩ = some (.slice z.2.1 z.2.2.1 z.2.2.2) := by
  have h1 := zcells_get L k z hz
  have hk := (List.getElem?_eq_some_iff.1 hz).1
  have hl := zcells_length L
  exact ⟨by rw [h.1.cell, List.getElem?_append_left (by omega)]; exact h1.1, by rw [h.1.cell, List.getElem?_append_left (by omega)]; exact h1.2⟩
theorem SrtAt.free (h : SrtAt w0 b n more L w) (k : Nat) : w.frozen? ⟨b, k, none⟩ = false := h.1.free k
theorem SrtAt.put (h : SrtAt w0 b n more L w) {k : Nat} (z : Zel) (hk : k < n) : SrtAt w0 b n more (L.set k z) ((w.setCell ⟨b, k * 2, none⟩ (.int .i64 z.1.1)).setCell ⟨b, k * 2 + 1, none⟩ (.slice z.2.1 z.2.2.1 z.2.2.2)) := by
  refine ⟨?_, (h.2.1.setCell (p := ⟨b, k * 2, none⟩) (.inl (by simp)) _).setCell (p := ⟨b, k * 2 + 1, none⟩) (.inl (by simp)) _, by rw [List.length_set]; exact h.2.2.1, h.2.2.2⟩
  have h1 := (h.1.set (k * 2) (.int .i64 z.1.1)).set (k * 2 + 1) (.slice z.2.1 z.2.2.1 z.2.2.2)
  rw [zcells_set L k z more (by have := h.2.2.1; omega)] at h1
  exact h1
end
set_option maxRecDepth 100000 in
set_option maxHeartbeats 4000000 in
theorem pcmp_any (w : World) (p q : Nat) (a1 a2 : Option Addr) (n1 n2 c1 c2 : Nat) (hp : p ≤ 1000000) (hq : q ≤ 1000000) :
    Calls Tryd.prog 80 #[.agg #[.int .i64 p, .slice a1 n1 c1], .agg #[.int .i64 q, .slice a2 n2 c2]] w fun e w' => e = .returned (.int .i64 ((q : Int) - p)) ∧ Below w.heap.size w w' := by
  have hb : Below w.heap.size w ((w.alloc (.cells #[.int .i64 p, .slice a1 n1 c1] 48)).alloc (.cells #[.int .i64 q, .slice a2 n2 c2] 48)) := ((Below.refl _ _).alloc (Nat.le_refl _) _).alloc (by simp) _
  have HB := hid hb
  have hw : IntKind.i64.wrap ((q : Int) - p) = (q : Int) - p := by rw [IntKind.wrap_i64]; omega
  clear hb
  go_enter Tryd.func80, Tryd.ntmps80
  go_wp2_with fail
  go_ret
  exact ⟨rfl, HB.out⟩
end Go.Proofs.YtkinnfejgpnddaaDoor
