/- The library's contracts, laid at this dump (written by the kit's lay-plain.mjs; names for numbers by laytpl.py). -/
import Derived.Test.YthnpbopnpdlmnaaDoorProg
import Derived.Shelf.Strconv.Itoa0
import Derived.Shelf.Strconv.Itoa1
import Derived.Shelf.LaysM
import Derived.Shelf.Strconv.Itoa2
import Derived.Shelf.Strconv.AppendUint10
import Derived.Shelf.Strconv.AppendInt10
import Derived.Shelf.Strconv.AppendIntPublic10
import Derived.Test.YthnpbopnpdlmnaaDoorA18
import Derived.Test.YthnpbopnpdlmnaaDoorA01
import Derived.MapKept
import Derived.Laws.StructEq
import Derived.Test.YthnpbopnpdlmnaaDoorA24
import Derived.Lib.ItoaLen
namespace Go.Proofs
open Go.Shelf
open Go.Lib in
open Go.Lib in
open Go.Lib in
open Go.Lib in
open Go.RowKit Go.Sort Go.Lib in
open Go.RowKit Go.Sort Go.Lib in
open Go.RowKit Go.Sort Go.Lib in
open Go.RowKit Go.Sort Go.Lib in
open Go.RowKit Go.Sort Go.Lib in
def Tryd.laysM176_ren : Go.Shelf.Ren := ⟨fun | 176 => 61 | 249 => 63 | 288 => 66 | 283 => 68 | 284 => 69 | 285 => 70 | 286 => 71 | 129 => 74 | 317 => 73 | 318 => 75 | 319 => 76 | 320 => 77 | 337 => 78 | 338 => 79 | n => n, fun | 37 => 79 | 2 => 2 | 3 => 3 | 53 => 22 | 4 => 4 | 9 => 9 | 171 => 118 | 0 => 0 | 173 => 121 | 212 => 125 | 51 => 126 | 5 => 5 | 20 => 20 | 213 => 127 | 46 => 116 | 232 => 130 | 233 => 131 | n => n, fun | 17 => 1 | 18 => 2 | 19 => 3 | n => n⟩
theorem Tryd.laysM176 : Go.Proofs.LaysM.n176 Tryd.prog Tryd.laysM176_ren := {
  mixed := by kernel_rfl
  f129 := Tryd.func74.trans (congrArg some (by kernel_rfl))
  f176 := Tryd.func61.trans (congrArg some (by kernel_rfl))
  f249 := Tryd.func63.trans (congrArg some (by kernel_rfl))
  f283 := Tryd.func68.trans (congrArg some (by kernel_rfl))
  f284 := Tryd.func69.trans (congrArg some (by kernel_rfl))
  f285 := Tryd.func70.trans (congrArg some (by kernel_rfl))
  f286 := Tryd.func71.trans (congrArg some (by kernel_rfl))
  f288 := Tryd.func66.trans (congrArg some (by kernel_rfl))
  f317 := Tryd.func73.trans (congrArg some (by kernel_rfl))
  f318 := Tryd.func75.trans (congrArg some (by kernel_rfl))
  f319 := Tryd.func76.trans (congrArg some (by kernel_rfl))
  f320 := Tryd.func77.trans (congrArg some (by kernel_rfl))
  f337 := Tryd.func78.trans (congrArg some (by kernel_rfl))
  f338 := Tryd.func79.trans (congrArg some (by kernel_rfl))
  t0 := Tryd.underlying0
  a0 := Tryd.isAgg0
  z0 := Tryd.sizeOf0
  v0 := Tryd.zeroValue0
  t2 := Tryd.underlying2
  a2 := Tryd.isAgg2
  z2 := Tryd.sizeOf2
  v2 := Tryd.zeroValue2
  t3 := Tryd.underlying3
  a3 := Tryd.isAgg3
  z3 := Tryd.sizeOf3
  v3 := Tryd.zeroValue3
  t4 := Tryd.underlying4
  a4 := Tryd.isAgg4
  z4 := Tryd.sizeOf4
  v4 := Tryd.zeroValue4
  t5 := Tryd.underlying5
  a5 := Tryd.isAgg5
  z5 := Tryd.sizeOf5
  v5 := Tryd.zeroValue5
  t9 := Tryd.underlying9
  a9 := Tryd.isAgg9
  z9 := Tryd.sizeOf9
  v9 := Tryd.zeroValue9
  t20 := Tryd.underlying20
  a20 := Tryd.isAgg20
  z20 := Tryd.sizeOf20
  v20 := Tryd.zeroValue20
  t37 := Tryd.underlying79
  a37 := Tryd.isAgg79
  z37 := Tryd.sizeOf79
  v37 := Tryd.zeroValue79
  t46 := Tryd.underlying116
  a46 := Tryd.isAgg116
  z46 := Tryd.sizeOf116
  v46 := Tryd.zeroValue116
  t51 := Tryd.underlying126
  a51 := Tryd.isAgg126
  z51 := Tryd.sizeOf126
  v51 := Tryd.zeroValue126
  t53 := Tryd.underlying22
  a53 := Tryd.isAgg22
  z53 := Tryd.sizeOf22
  v53 := Tryd.zeroValue22
  t171 := Tryd.underlying118
  a171 := Tryd.isAgg118
  z171 := Tryd.sizeOf118
  v171 := Tryd.zeroValue118
  t173 := Tryd.underlying121
  a173 := Tryd.isAgg121
  z173 := Tryd.sizeOf121
  v173 := Tryd.zeroValue121
  t212 := Tryd.underlying125
  a212 := Tryd.isAgg125
  z212 := Tryd.sizeOf125
  v212 := Tryd.zeroValue125
  t213 := Tryd.underlying127
  a213 := Tryd.isAgg127
  z213 := Tryd.sizeOf127
  t232 := Tryd.underlying130
  a232 := Tryd.isAgg130
  z232 := Tryd.sizeOf130
  v232 := Tryd.zeroValue130
  t233 := Tryd.underlying131
  a233 := Tryd.isAgg131
  z233 := Tryd.sizeOf131
  v233 := Tryd.zeroValue131
  g17 := by kernel_rfl
  g18 := by kernel_rfl
  g19 := by kernel_rfl
  i0 := by kernel_rfl
  i2 := by kernel_rfl
  i3 := by kernel_rfl
  i4 := by kernel_rfl
  i5 := by kernel_rfl
  i9 := by kernel_rfl
  i20 := by kernel_rfl
  i37 := by kernel_rfl
  i46 := by kernel_rfl
  i51 := by kernel_rfl
  i53 := by kernel_rfl
  i171 := by kernel_rfl
  i173 := by kernel_rfl
  i212 := by kernel_rfl
  i232 := by kernel_rfl
  i233 := by kernel_rfl
  m17 := by kernel_rfl
  m18 := by kernel_rfl
  m19 := by kernel_rfl }
open Go.RowKit Go.Sort Go.Lib in
theorem Tryd.strconv_AppendInt_10 (B n : Nat) (i : Int) (h0 : -9223372036854775808 ≤ i) (h1 : i ≤ 9223372036854775807) (sv : Value) (xs : List Value) (w : World) (hown : w.ownsRow B 5 1 sv n xs) (hBw : B ≤ w.heap.size) (hlim : n + 21 ≤ 140737488355328) (htab : Lib.TabBelow Tryd.prog B w "internal/strconv.uint64pow10" .u64 Lib.pow10Tab) :
    Calls Tryd.prog 61 #[sv, .int .i64 i, .int .i64 10] w fun e w' => ∃ v', e = .returned v' ∧ w'.ownsRow B 5 1 v' (n + (Lib.itoa i).length) (xs ++ Lib.byteCells (Lib.itoa i)) ∧ Below B w w' ∧ Lib.OthersKept 5 none w w' := Any.strconv_AppendInt_10 Tryd.laysM176 B n i h0 h1 sv xs w hown hBw hlim htab
end Go.Proofs

/- The reference of the parses: spans with another one, spans without those of groups. -/
namespace Go.Proofs.YthnpbopnpdlmnaaDoor
open Go.RowKit
attribute [local go_sem] gives givesUpon

theorem SpQ.get {w : World} {v : Value} {sp : Spans} (h : SpQ w v sp) {k : Nat} (hk : k < sp.length) : ∃ (b c : Nat) (x1 x2 : Int), sp[k]? = some (x1, x2) ∧ v = .slice (some ⟨b, 0, none⟩) sp.length c ∧ b < w.heap.size ∧ (∃ cs, Row w b cs 74) ∧ w.cell? ⟨b, k * 2, none⟩ = some (.int .i64 x1) ∧ w.cell? ⟨b, k * 2 + 1, none⟩ = some (.int .i64 x2) := by
  obtain ⟨a, c, e, h1 | ⟨b, more, h1, h2⟩⟩ := h
  · rw [h1] at hk; simp at hk
  · subst h1
    have hx := spc_get sp k sp[k] (by simp [hk])
    have hl := spc_length sp
    refine ⟨b, c, sp[k].1, sp[k].2, by simp [hk], e, h2.lt, ⟨_, h2⟩, ?_, ?_⟩
    · rw [h2.cell, List.getElem?_append_left (by omega), show k * 2 = 2 * k by omega, hx.1]
    · rw [h2.cell, List.getElem?_append_left (by omega), show k * 2 + 1 = 2 * k + 1 by omega, hx.2]
end Go.Proofs.YthnpbopnpdlmnaaDoor

/- Maps from keys to true, as sets: what a look-up gives, what a store leaves, how many there are. -/
namespace Go.Proofs.YthnpbopnpdlmnaaDoor
open Go.RowKit

section
variable {P : Program} {κ : Type}
def KSet (enc : κ → Value) (w : World) (M : Nat) (l : List κ) : Prop :=
  ∃ es clock, w.heap[M]? = some (.map es clock) ∧ es.toList.map (·.key) = l.map enc ∧ ∀ e, e ∈ es.toList → e.val = .bool true
variable {enc : κ → Value} {w w' : World} {M : Nat} {l : List κ}
theorem KSet.lt (h : KSet enc w M l) : M < w.heap.size := by
  obtain ⟨es, c, h1, _⟩ := h
  rcases Nat.lt_or_ge M w.heap.size with h2 | h2
  · exact h2
  · simp [Array.getElem?_eq_none h2] at h1
theorem KSet.of_block (h : KSet enc w M l) (hb : w'.heap[M]? = w.heap[M]?) : KSet enc w' M l := by
  obtain ⟨es, c, h1, h2⟩ := h
  exact ⟨es, c, hb.trans h1, h2⟩
theorem KSet.but {S : List Nat} (h : KSet enc w M l) (hb : But S w w') (hM : M ∉ S) : KSet enc w' M l := h.of_block (hb.block M h.lt hM)
theorem KSet.below (h : KSet enc w M l) (hb : Below w.heap.size w w') : KSet enc w' M l := h.of_block (hb.block M h.lt)
theorem KSet.new (h : M = w.heap.size) : KSet enc (w.alloc (.map #[] 0)) M [] := by
  subst h
  exact ⟨#[], 0, by show (w.heap.push _)[w.heap.size]? = _; simp, by simp, by simp⟩
theorem KSet.row {T : TypeId} {cs : List Value} (h : KSet enc w M l) (hr : Row w M cs T) : False := by
  obtain ⟨es, c, h1, _⟩ := h
  have h2 : w.heap[M]? = some (.cells cs.toArray T (0, 0)) := hr
  rw [h1] at h2
  cases h2
theorem KSet.run_len (h : KSet enc w M l) (T K E ty : TypeId) (hT : P.underlying T = some (.map K E)) : (Builtin.len_ #[T] ty #[.map (some M)]).run P w = .ok (.int .i64 l.length) w := by
  obtain ⟨es, c, h1, h2, h3⟩ := h
  have hl : es.size = l.length := by
    have := congrArg List.length h2
    simpa using this
  simp [Builtin.len_, run_underlying hT, MapKept.run_getObj_map h1, goInt, hl, Result.andThen]
theorem wpList_len_kset {ops : Array Oper} {rest : List Oper} {o : Oper} {a : Act} {Q : Exit → Act → World → Prop} (hgd : o.guard = none) (x : Operand) (T K E : TypeId) (hT : P.underlying T = some (.map K E)) (ho : o.op = .call { callee := .builtin .len, args := #[x], argTypes := #[T] }) (h : KSet enc w M l)
    (hx : a.eval x = .map (some M)) (hn : wpList P ops Q rest (a.put o.dst (.int .i64 l.length)) w) : wpList P ops Q (o :: rest) a w := by
  refine wpList_plain hgd fun K' hK' => ?_
  unfold Oper.wp
  simp [execOp, ho, resolve, invoke, builtin, hx, h.run_len T K E o.type hT, Result.andThen]
  exact hK' _ _ hn
variable [BEq κ] [LawfulBEq κ]
structure KeyLaw (P : Program) (K : TypeId) (enc : κ → Value) : Prop where
  check : ∀ (b : Bool) (x : κ) (w : World), (Instr.checkKey b 10000 K (enc x)).run P w = .ok () w
  find : ∀ (x : κ) (es : List MapEntry) (l : List κ) (w : World), es.map (·.key) = l.map enc → ∃ r, (Instr.findKey K (enc x) es).run P w = .ok r w ∧ r.isSome = decide (x ∈ l) ∧ ∀ p, r = some p → ∃ e, e ∈ es ∧ e.val = p.2
theorem KSet.run_lookup (h : KSet enc w M l) (T K E : TypeId) (hT : P.underlying T = some (.map K E)) (hk : KeyLaw P K enc) (hz : (zeroValue E).run P w = .ok (.bool false) w) (x : κ) :
    (Instr.lookup T (.map (some M)) (enc x) false).run P w = .ok (.bool (decide (x ∈ l))) w := by
  obtain ⟨es, c, h1, h2, h3⟩ := h
  obtain ⟨r, h4, h5, h6⟩ := hk.find x es.toList l w h2
  have hck := hk.check es.isEmpty x w
  rw [← h5]
  cases r with
  | none => simp [Instr.lookup, run_underlying hT, MapKept.run_getObj_map h1, hck, h4, hz, Result.andThen]
  | some p =>
    obtain ⟨e, he1, he2⟩ := h6 p rfl
    have := h3 e he1
    rw [he2] at this
    obtain ⟨j, v⟩ := p
    simp only at this
    subst this
    simp [Instr.lookup, run_underlying hT, MapKept.run_getObj_map h1, hck, h4, Result.andThen]
theorem KSet.run_update (h : KSet enc w M l) (T K E : TypeId) (hT : P.underlying T = some (.map K E)) (hk : KeyLaw P K enc) (x : κ) (hx : x ∉ l) :
    ∃ w', (Instr.mapUpdate T (.map (some M)) (enc x) (.bool true)).run P w = .ok () w' ∧ KSet enc w' M (l ++ [x]) ∧ But [M] w w' := by
  have hlt := h.lt
  obtain ⟨es, c, h1, h2, h3⟩ := h
  obtain ⟨r, h4, h5, h6⟩ := hk.find x es.toList l w h2
  have hck := hk.check false x w
  cases r with
  | some p => simp [hx] at h5
  | none =>
    refine ⟨{ w with heap := w.heap.setIfInBounds M (.map (es.push { key := enc x, val := .bool true, born := c }) (c + 1)) }, by simp [Instr.mapUpdate, run_underlying hT, MapKept.run_getObj_map h1, hck, h4, MapKept.run_setObj_map _ h1, Result.andThen], ⟨es.push { key := enc x, val := .bool true, born := c }, c + 1, by simp [hlt], ?_, ?_⟩, ⟨rfl, rfl, rfl, by simp, fun i hi hn => by
      have : M ≠ i := by simpa using Ne.symm (by simpa using hn)
      simp [this]⟩⟩
    · rw [Array.toList_push, List.map_append, h2, List.map_append]
      rfl
    · intro e he
      simp at he
      rcases he with he | he
      · exact h3 e (by simpa using he)
      · subst he; rfl
theorem wpList_lookup_kset {ops : Array Oper} {rest : List Oper} {o : Oper} {a : Act} {Q : Exit → Act → World → Prop} (hgd : o.guard = none) (T : TypeId) (x y : Operand) (ho : o.op = .lookup T x y false) (h : KSet enc w M l)
    (hx : a.eval x = .map (some M)) (k : κ) (hy : a.eval y = enc k) (K E : TypeId) (hT : P.underlying T = some (.map K E)) (hk : KeyLaw P K enc) (hz : (zeroValue E).run P w = .ok (.bool false) w)
    (hn : wpList P ops Q rest (a.put o.dst (.bool (decide (k ∈ l)))) w) : wpList P ops Q (o :: rest) a w := by
  refine wpList_plain hgd fun K' hK' => ?_
  unfold Oper.wp
  simp [execOp, ho, hx, hy, h.run_lookup T K E hT hk hz k, Result.andThen]
  exact hK' _ _ hn
theorem wpList_update_kset {ops : Array Oper} {rest : List Oper} {o : Oper} {a : Act} {Q : Exit → Act → World → Prop} (hgd : o.guard = none) (T : TypeId) (x y z : Operand) (ho : o.op = .mapUpdate T x y z) (h : KSet enc w M l)
    (hx : a.eval x = .map (some M)) (k : κ) (hy : a.eval y = enc k) (hnk : k ∉ l) (hz : a.eval z = .bool true) (K E : TypeId) (hT : P.underlying T = some (.map K E)) (hk : KeyLaw P K enc)
    (hn : ∀ w', KSet enc w' M (l ++ [k]) → But [M] w w' → wpList P ops Q rest (a.put o.dst undef) w') : wpList P ops Q (o :: rest) a w := by
  refine wpList_plain hgd fun K' hK' => ?_
  obtain ⟨w', h1, h2, h3⟩ := h.run_update T K E hT hk k hnk
  unfold Oper.wp
  simp [execOp, ho, hx, hy, hz, h1, Result.andThen]
  exact hK' _ _ (hn w' h2 h3)
def strV (l : List UInt8) : Value := .string ⟨l.toArray⟩
theorem str_beq (a b : List UInt8) : ((⟨a.toArray⟩ : ByteArray) == ⟨b.toArray⟩) = (a == b) := by
  rw [beq_toListBytes, ByteArray.toList_eq, ByteArray.toList_eq]
theorem findNow_str (s : List UInt8) : ∀ (es : List MapEntry) (l : List (List UInt8)) (i : Nat), es.map (·.key) = l.map strV → ∃ r, Instr.findNow .string (strV s) es i = some r ∧ r.isSome = decide (s ∈ l) ∧ ∀ p, r = some p → ∃ e, e ∈ es ∧ e.val = p.2
  | [], l, i, h => by
    have : l = [] := by simpa using h.symm
    subst this
    exact ⟨none, rfl, rfl, fun _ h => by cases h⟩
  | e :: es, [], i, h => by simp at h
  | e :: es, t :: l, i, h => by
    simp only [List.map_cons, List.cons.injEq] at h
    obtain ⟨h1, h2⟩ := h
    have hsn : Instr.sameNow .string (strV s) e.key = some (s == t) := by rw [h1]; simp only [strV, Instr.sameNow, str_beq]
    by_cases hst : s = t
    · have hb : (s == t) = true := by simp [hst]
      rw [hb] at hsn
      exact ⟨some (i, e.val), by simp only [Instr.findNow, hsn], by simp [hst], fun p hp => ⟨e, by simp, by have := Option.some.inj hp; rw [← this]⟩⟩
    · obtain ⟨r, h3, h4, h5⟩ := findNow_str s es l (i + 1) h2
      have hb : (s == t) = false := by simpa using hst
      rw [hb] at hsn
      refine ⟨r, by simp only [Instr.findNow, hsn, h3], by simp [h4, hst], fun p hp => ?_⟩
      obtain ⟨e', he1, he2⟩ := h5 p hp
      exact ⟨e', by simp [he1], he2⟩
theorem KeyLaw.str {K : TypeId} (hK : P.underlying K = some .string) : KeyLaw P K strV := by
  refine ⟨fun b x w => ?_, fun x es l w h => ?_⟩
  · unfold Instr.checkKey
    simp [run_underlying hK, strV]
  · obtain ⟨r, h1, h2, h3⟩ := findNow_str x es l 0 h
    exact ⟨r, by simp [Instr.findKey, run_underlying hK, h1], h2, h3⟩
theorem findAsk {K : TypeId} (heq : ∀ (x y : κ) (w : World), (Op.equal K (enc x) (enc y)).run P w = .ok (x == y) w) (x : κ) (w : World) : ∀ (es : List MapEntry) (l : List κ) (i : Nat), es.map (·.key) = l.map enc → ∃ r, (Instr.findAsking K (enc x) es i).run P w = .ok r w ∧ r.isSome = decide (x ∈ l) ∧ ∀ p, r = some p → ∃ e, e ∈ es ∧ e.val = p.2
  | [], l, i, h => by
    have : l = [] := by simpa using h.symm
    subst this
    exact ⟨none, rfl, rfl, fun _ h => by cases h⟩
  | e :: es, [], i, h => by simp at h
  | e :: es, t :: l, i, h => by
    simp only [List.map_cons, List.cons.injEq] at h
    obtain ⟨h1, h2⟩ := h
    by_cases hst : x = t
    · subst hst
      exact ⟨some (i, e.val), by simp [Instr.findAsking, h1, heq], by simp, fun p hp => ⟨e, by simp, by have := Option.some.inj hp; rw [← this]⟩⟩
    · obtain ⟨r, h3, h4, h5⟩ := findAsk heq x w es l (i + 1) h2
      refine ⟨r, by simp [Instr.findAsking, h1, heq, hst, h3], by simp [h4, hst], fun p hp => ?_⟩
      obtain ⟨e', he1, he2⟩ := h5 p hp
      exact ⟨e', by simp [he1], he2⟩
end
end Go.Proofs.YthnpbopnpdlmnaaDoor

/- The program of layer 9: the tables, and the text of a parse. -/
namespace Go.Proofs.YthnpbopnpdlmnaaDoor
open Go.RowKit
attribute [local go_sem] gives givesUpon

structure Tabs9 (w : World) : Prop where
  pow : Lib.TabIs Tryd.prog w "internal/strconv.uint64pow10" .u64 Lib.pow10Tab
  none0 : w.cell? ⟨0, 0, none⟩ = some (.int .i64 (-1))
  none1 : w.cell? ⟨0, 1, none⟩ = some (.int .i64 (-1))
  big : 4 ≤ w.heap.size
theorem pow_glob : (Tryd.prog.globalNamed "internal/strconv.uint64pow10").map (fun g => decide (g < 4)) = some true := by kernel_rfl
theorem Tabs9.below {n : Nat} {w w' : World} (h : Tabs9 w) (hb : Below n w w') (hn : 4 ≤ n) : Tabs9 w' := by
  obtain ⟨g, hg1, hg2⟩ := Option.map_eq_some_iff.1 pow_glob
  have hg3 : g < 4 := by simpa using hg2
  refine ⟨?_, (hb.cell (p := ⟨0, 0, none⟩) (by show 0 < n; omega)).trans h.none0, (hb.cell (p := ⟨0, 1, none⟩) (by show 0 < n; omega)).trans h.none1, Nat.le_trans h.big hb.size⟩
  have hp := h.pow
  unfold Lib.TabIs World.var? at hp ⊢
  rw [hg1] at hp ⊢
  simp only [Option.bind_some] at hp ⊢
  rw [hb.block g (by omega)]
  exact hp
theorem Tabs9.on {w w' : World} (h : Tabs9 w) (hb : Below w.heap.size w w') : Tabs9 w' := h.below hb h.big
theorem Tabs9.tab {B : Nat} {w : World} (h : Tabs9 w) (hB : 4 ≤ B) : Lib.TabBelow Tryd.prog B w "internal/strconv.uint64pow10" .u64 Lib.pow10Tab := fun _ hb => (h.below hb hB).pow
def OwnB (w : World) (B : Nat) (v : Value) (l : List UInt8) : Prop := w.ownsRow B 5 1 v l.length (Lib.byteCells l)
theorem OwnB.shape {w : World} {B : Nat} {v : Value} {l : List UInt8} (h : OwnB w B v l) : ∃ a c, v = .slice a l.length c := ownsRow_shape h
theorem OwnB.keep {w w' : World} {B : Nat} {v : Value} {l : List UInt8} (h : OwnB w B v l) (hb : Below w.heap.size w w') : OwnB w' B v l :=
  World.ownsRow.kept h (row := none) ⟨hb.os, hb.tape, hb.output, hb.size, fun k hk _ => hb.block k hk⟩ (by cases v.ownBlock <;> simp)
theorem OwnB.nil (w : World) (B : Nat) : OwnB w B (.slice none 0 0) [] := World.ownsRow_nil _ _ _ _
theorem pappend_int (w : World) (B : Nat) (v : Value) (l : List UInt8) (i : Int) (hown : OwnB w B v l) (hi : -1000000000 ≤ i ∧ i ≤ 1000000000) (hB : 4 ≤ B) (hBw : B ≤ w.heap.size) (hl : l.length ≤ 1000000) (ht : Tabs9 w) :
    Calls Tryd.prog 61 #[v, .int .i64 i, .int .i64 10] w fun e w' => ∃ v', e = .returned v' ∧ OwnB w' B v' (l ++ Lib.itoa i) ∧ Below B w w' := by
  refine (Tryd.strconv_AppendInt_10 B l.length i (by omega) (by omega) v (Lib.byteCells l) w hown hBw (by omega) (ht.tab hB)).mono ?_
  rintro e w' ⟨v', he, h1, h2, -⟩
  refine ⟨v', he, ?_, h2⟩
  unfold OwnB
  rw [List.length_append, show Lib.byteCells (l ++ Lib.itoa i) = Lib.byteCells l ++ Lib.byteCells (Lib.itoa i) by unfold Lib.byteCells; exact List.map_append]
  exact h1
set_option maxRecDepth 100000 in
theorem OwnB.conv {w : World} {B : Nat} {a : Option Addr} {n c : Nat} {l : List UInt8} (h : OwnB w B (.slice a n c) l) (hn : n = l.length) (h0 : l ≠ []) : (convert 79 9 (.slice a n c)).run Tryd.prog w = .ok (strV l) w := by
  subst hn
  have hpos : 0 < l.length := List.length_pos_iff.2 h0
  have hh := h
  obtain ⟨_, h1 | ⟨g, cap, cur, hv, hg⟩⟩ := h
  · have := h1.2; omega
  · clear hg
    injection hv with e1 e2 e3
    subst e1
    refine run_convert_bytes_back w _ _ 5 ⟨g, 0, none⟩ c l Tryd.underlying79 Tryd.underlying5 Tryd.underlying9 fun j hj => ?_
    have h1 := World.ownsRow.cells hh (g := g) rfl j (.int .u8 (l[j].toNat : Int)) (by unfold Lib.byteCells; rw [List.getElem?_map, List.getElem?_eq_getElem hj]; rfl)
    exact h1
theorem info_byte : (Tryd.prog.info? 5).map (fun i => (i.zero, i.size, i.bytes)) = some (some (.int .u8 0), 1, 1) := by kernel_rfl
theorem idx_two0 (a b : Int) (w : World) : (Instr.index 111 (.agg #[.int .i64 a, .int .i64 b]) (.int .i64 0)).run Tryd.prog w = .ok (.int .i64 a) w := by
  simp [Instr.index, asIntOf, run_underlying Tryd.underlying111, Tryd.sizeOf3, part, Tryd.isAgg3, Result.andThen]
theorem idx_two1 (a b : Int) (w : World) : (Instr.index 111 (.agg #[.int .i64 a, .int .i64 b]) (.int .i64 1)).run Tryd.prog w = .ok (.int .i64 b) w := by
  simp [Instr.index, asIntOf, run_underlying Tryd.underlying111, Tryd.sizeOf3, part, Tryd.isAgg3, Result.andThen]
def kpart (x1 x2 : Int) : Nat → List UInt8
  | 0 => []
  | 1 => 32 :: Lib.itoa x1
  | _ => (32 :: Lib.itoa x1) ++ (32 :: Lib.itoa x2)
theorem itoa_len {i : Int} (h : -1 ≤ i ∧ i ≤ 1000000) : (Lib.itoa i).length ≤ 21 := Lib.itoa_length_le i (by omega) (by omega)
theorem keyMore_len : ∀ (l : List Int), (∀ i, i ∈ l → -1 ≤ i ∧ i ≤ 1000000) → (keyMore l).length ≤ 22 * l.length
  | [], _ => by simp [keyMore]
  | i :: l, h => by
    have h1 := itoa_len (h i (by simp))
    have h2 := keyMore_len l fun j hj => h j (by simp [hj])
    have e : keyMore (i :: l) = 32 :: (Lib.itoa i ++ keyMore l) := rfl
    rw [e]
    simp
    omega
theorem kpart_len {x1 x2 : Int} (h1 : -1 ≤ x1 ∧ x1 ≤ 1000000) (h2 : -1 ≤ x2 ∧ x2 ≤ 1000000) (j : Nat) : (kpart x1 x2 j).length ≤ 44 := by
  have := itoa_len h1
  have := itoa_len h2
  unfold kpart
  split <;> simp <;> omega
def KeyL (w : World) (q1 : Nat) (sv : Value) (l : List UInt8) (v : Value) (wr : World) : Prop :=
  OwnB wr (w.heap.size + 1) v l ∧ Row wr w.heap.size [.int .i64 q1, sv] 71 ∧ Below w.heap.size w wr
set_option maxRecDepth 100000 in
set_option maxHeartbeats 8000000 in
theorem pkey_any (w : World) (q : Parse) (sa : Option Addr) (sc : Nat) (hsp : SpQ w (.slice sa q.2.length sc) q.2) (hl : q.2.length ≤ 9) (hq : q.1 ≤ 1000000) (hx : ∀ x, x ∈ q.2 → -1 ≤ x.1 ∧ x.1 ≤ 1000000 ∧ -1 ≤ x.2 ∧ x.2 ≤ 1000000) (ht : Tabs9 w) :
    Calls Tryd.prog 55 #[.agg #[.int .i64 q.1, .slice sa q.2.length sc]] w fun e w' => e = .returned (strV (keyB q)) ∧ Below w.heap.size w w' := by
  have R0 : Row (w.alloc (.cells #[.int .i64 q.1, .slice sa q.2.length sc] 71)) w.heap.size [.int .i64 q.1, .slice sa q.2.length sc] 71 := Row.new rfl
  have hb1 : Below w.heap.size w (w.alloc (.cells #[.int .i64 q.1, .slice sa q.2.length sc] 71)) := (Below.refl _ _).alloc (Nat.le_refl _) _
  have q0 := R0.cell 0
  have q1 := R0.cell 1
  have HR := hid (⟨R0, hb1⟩ : _ ∧ _)
  have HT := hid ht
  have HS := hid hsp
  have HX := hid hx
  have hbig := ht.big
  have HC1 := hid (pappend_int (w.alloc (.cells #[.int .i64 q.1, .slice sa q.2.length sc] 71)) (w.heap.size + 1) (.slice none 0 0) [] q.1 (OwnB.nil _ _) (by omega) (by omega) (by simp) (by simp) (ht.on hb1))
  obtain ⟨n, hn⟩ : ∃ n, n = q.2.length := ⟨_, rfl⟩
  have hn9 : n ≤ 9 := by omega
  have HN := hid hn
  rw [← hn] at q1 HC1 HR HS ⊢
  clear R0 hb1 ht hsp hx hn
  go_enter Tryd.func55, Tryd.ntmps55
  go_wp2_with fail
  refine HC1.out.mono ?_
  rintro e z ⟨v1, rfl, ho1, hb1⟩
  obtain ⟨a1, c1, rfl⟩ := ho1.shape
  rw [List.nil_append] at ho1 ⊢
  have HZ : Hid (KeyL w q.1 (.slice sa n sc) (Lib.itoa q.1) (.slice a1 (Lib.itoa q.1).length c1) z) := ⟨ho1, HR.out.1.below hb1 (by simp), HR.out.2.trans (hb1.mono (by omega))⟩
  clear HC1 q0 q1 ho1 hb1
  have q1 := HZ.out.2.1.cell 1
  obtain ⟨m1, hm1⟩ : ∃ m, m = (Lib.itoa q.1).length := ⟨_, rfl⟩
  rw [← hm1]
  have HM1 := hid hm1
  clear hm1
  go_wp2_with fail
  go_loopw [3, 14] (fun v3 v14 wr => ∃ (k : Nat) (a : Option Addr) (m c : Nat), v3 = .slice a m c ∧ v14 = .int .i64 k ∧ k ≤ n ∧ Hid (m = (Lib.itoa q.1 ++ keyMore (spNums (q.2.take k))).length ∧ KeyL w q.1 (.slice sa n sc) (Lib.itoa q.1 ++ keyMore (spNums (q.2.take k))) (.slice a m c) wr)) (fun _ v14 _ => n - (intOf v14).toNat)
  case atStart =>
    refine ⟨0, a1, m1, c1, rfl, rfl, Nat.zero_le _, ?_⟩
    have e0 : Lib.itoa q.1 ++ keyMore (spNums (q.2.take 0)) = Lib.itoa q.1 := by simp [spNums, keyMore]
    show _ ∧ _
    rw [e0]
    exact ⟨HM1.out, by rw [HM1.out]; exact HZ.out⟩
  case round =>
    obtain ⟨k, a, m, c, rfl, rfl, hk, HY⟩ := hrel
    obtain ⟨h0, h1, h2, h3⟩ := HY.out
    by_cases hlt : k < n
    · have hltI : (k : Int) < (n : Int) := by omega
      obtain ⟨b, cc, x1, x2, hq, ev, hb, -, p0, p1⟩ := (HS.out.of (fun _ _ hr => hr.below h3 hr.lt) : SpQ wr _ q.2).get (k := k) (by have := HN.out; omega)
      injection ev with e1 e2 e3
      subst e1; subst e3
      clear e2
      have hxb := HX.out (x1, x2) (List.mem_of_getElem? hq)
      dsimp only at hxb
      have hstep : keyMore (spNums (q.2.take (k + 1))) = keyMore (spNums (q.2.take k)) ++ ((32 :: Lib.itoa x1) ++ (32 :: Lib.itoa x2)) := by
        rw [List.take_add_one, hq]
        simp [spNums, keyMore]
      obtain ⟨L, hL⟩ : ∃ L, L = Lib.itoa q.1 ++ keyMore (spNums (q.2.take k)) := ⟨_, rfl⟩
      rw [← hL] at h0 h1
      have hlen : L.length ≤ 1000 := by
        have h5 := keyMore_len (spNums (q.2.take k)) (fun i hi => by
          obtain ⟨x, hx, hi⟩ := List.mem_flatMap.1 hi
          have h6 := HX.out x (List.mem_of_mem_take hx)
          simp at hi
          rcases hi with rfl | rfl <;> omega)
        have h6 : (spNums (q.2.take k)).length = 2 * k := by
          have h7 : ∀ l : Spans, (spNums l).length = 2 * l.length := fun l => by
            induction l with
            | nil => rfl
            | cons x l ih =>
              have e : spNums (x :: l) = x.1 :: x.2 :: spNums l := rfl
              rw [e]
              simp [ih]
              omega
          rw [h7, List.length_take]
          have := HN.out
          omega
        have h8 := Lib.itoa_length_le (q.1 : Int) (by omega) (by omega)
        rw [hL, List.length_append]
        omega
      have HL := hid hL
      have HST := hid hstep
      have hal : Below wr.heap.size wr (wr.alloc (.cells #[.int .i64 x1, .int .i64 x2] 74)) := (Below.refl _ _).alloc (Nat.le_refl _) _
      have HY2 := hid (⟨h0, h1.keep hal, h2.below hal h2.lt, h3.trans (hal.mono h3.size), hal.size⟩ : m = L.length ∧ OwnB _ _ _ L ∧ Row _ _ _ _ ∧ Below w.heap.size w _ ∧ _)
      clear h0 h1 h2 h3 hal hL hstep hq HY
      go_wp2_with fail
      go_loopw [3, 23] (fun v3 v23 wx => ∃ (j : Nat) (a : Option Addr) (m c : Nat), v3 = .slice a m c ∧ v23 = .int .i64 j ∧ j ≤ 2 ∧ Hid (m = (L ++ kpart x1 x2 j).length ∧ KeyL w q.1 (.slice (some ⟨b, 0, none⟩) n sc) (L ++ kpart x1 x2 j) (.slice a m c) wx)) (fun _ v23 _ => 2 - (intOf v23).toNat)
      case atStart => exact ⟨0, a, m, c, rfl, rfl, by omega, by simp [kpart]; exact HY2.out.1, by simp only [kpart, List.append_nil]; exact ⟨HY2.out.2.1, HY2.out.2.2.1, HY2.out.2.2.2.1⟩⟩
      case round =>
        obtain ⟨j, a, m, c, rfl, rfl, hj, HK⟩ := hrel
        by_cases hj2 : j = 2
        · subst hj2
          have HF : Hid (m = (Lib.itoa q.1 ++ keyMore (spNums (q.2.take (k + 1)))).length ∧ KeyL w q.1 (.slice (some ⟨b, 0, none⟩) n sc) (Lib.itoa q.1 ++ keyMore (spNums (q.2.take (k + 1)))) (.slice a m c) wr) := by
            have he : Lib.itoa q.1 ++ keyMore (spNums (q.2.take (k + 1))) = L ++ kpart x1 x2 2 := by rw [HST.out, HL.out, List.append_assoc]; rfl
            show _ ∧ _
            rw [he]
            exact HK.out
          clear HK
          go_wp2_with fail
          refine ⟨⟨k + 1, a, m, c, rfl, by go_num, by omega, HF.out⟩, ?_⟩
          simp [intOf] <;> omega
        · have h01 : ∃ y : Int, ((j = 0 ∧ y = x1) ∨ (j = 1 ∧ y = x2)) ∧ Hid (kpart x1 x2 (j + 1) = (kpart x1 x2 j ++ [32]) ++ Lib.itoa y) ∧ (-1 ≤ y ∧ y ≤ 1000000) := by
            by_cases h0 : j = 0
            · subst h0; exact ⟨x1, .inl ⟨rfl, rfl⟩, rfl, by omega⟩
            · obtain rfl : j = 1 := by omega
              exact ⟨x2, .inr ⟨rfl, rfl⟩, by simp [kpart, Hid], by omega⟩
          obtain ⟨y, hjy, HY3, hyb⟩ := h01
          obtain ⟨K, hK⟩ : ∃ K, K = L ++ kpart x1 x2 j := ⟨_, rfl⟩
          obtain ⟨g0, g1, g2, g3⟩ := HK.out
          rw [← hK] at g0 g1
          have hkl : K.length ≤ 2000 := by
            have := kpart_len (x1 := x1) (x2 := x2) (by omega) (by omega) j
            rw [hK, List.length_append]; omega
          have HKK := hid hK
          have HG := hid (⟨g0, g1, g2, g3⟩ : m = K.length ∧ OwnB _ _ _ K ∧ _ ∧ Below w.heap.size w _)
          have hsz := g3.size
          have hbig := HT.out.big
          obtain ⟨i0, hi, hz0, hz1, hz2⟩ := info_parts info_byte
          clear g0 g1 g2 g3 hK HK
          have hix : ∀ w0 : World, (Instr.index 111 (.agg #[.int .i64 x1, .int .i64 x2]) (.int .i64 j)).run Tryd.prog w0 = .ok (.int .i64 y) w0 := by
            intro w0
            rcases hjy with ⟨rfl, rfl⟩ | ⟨rfl, rfl⟩
            · exact idx_two0 _ _ w0
            · exact idx_two1 _ _ w0
          have hj1 : j < 2 := by omega
          obtain ⟨M, hM⟩ : ∃ M, M = L ++ kpart x1 x2 (j + 1) := ⟨_, rfl⟩
          have HME : Hid (K ++ [32] ++ Lib.itoa y = M) := by show _ = _; rw [hM, HY3.out, HKK.out, List.append_assoc, List.append_assoc, List.append_assoc]
          have HM := hid hM
          clear hM hjy
          go_wp2_with (at_builtin; refine wpList_append_row rfl _ _ 79 rfl (w.heap.size + 1) 5 i0 (.int .u8 0) 1 1 Tryd.underlying79 hi hz0 hz1 hz2 rfl (by decide) _ m (Lib.byteCells K) rfl ?c0 ⟨wr.heap.size, 0, none⟩ 1 1 [.int .u8 32] rfl rfl ?c1 ?c2 ?c3 ?c4 ?c5 (by decide) ?_)
          case c0 =>
            have h9 := HG.out.2.1.keep (w' := wr.alloc (.cells #[.int .u8 32] 5)) ((Below.refl _ _).alloc (Nat.le_refl _) _)
            unfold OwnB at h9
            rw [← HG.out.1] at h9
            exact h9
          case c1 =>
            intro j u hj
            rw [Addr.add_lit, Nat.zero_add]
            exact (Row.new (w := wr) (cs := [.int .u8 32]) (T := 5) rfl).cell j ▸ hj
          case c2 => intro u hu; simp at hu; subst hu; rfl
          case c3 => have := HG.out.1; unfold maxLen; omega
          case c4 => have := HG.out.1; omega
          case c5 => have := HG.out.2.2.1.lt; simp; omega
          intro a2 c2 w3 hown hgrow hnw
          have hal : Below wr.heap.size wr (wr.alloc (.cells #[.int .u8 32] 5)) := (Below.refl _ _).alloc (Nat.le_refl _) _
          have hb3 : Below w.heap.size w w3 := (HG.out.2.2.2.trans (hal.mono hsz)).grown hgrow (Nat.le_trans hsz hal.size) fun g hg => by
            have := (World.ownsRow.lt HG.out.2.1 g hg).1
            omega
          have hr3 : Row w3 w.heap.size _ _ := (hgrow.block w.heap.size (by have := HG.out.2.2.1.lt; simp; omega) (fun e => by have := (World.ownsRow.lt HG.out.2.1 _ e.symm).1; omega)).trans (HG.out.2.2.1.below hal HG.out.2.2.1.lt)
          have ho3 : OwnB w3 (w.heap.size + 1) (.slice a2 (m + 1) c2) (K ++ [32]) := by
            unfold OwnB
            rw [show (K ++ [(32 : UInt8)] : List UInt8).length = m + 1 from by rw [List.length_append, HG.out.1]; rfl, show Lib.byteCells (K ++ [(32 : UInt8)]) = Lib.byteCells K ++ [.int .u8 32] from by unfold Lib.byteCells; rw [List.map_append]; rfl]
            exact hown
          have HN3 := hid (⟨ho3, hr3, hb3⟩ : _ ∧ _ ∧ _)
          have HC := hid (pappend_int w3 (w.heap.size + 1) (.slice a2 (m + 1) c2) (K ++ [32]) y ho3 (by omega) (by omega) (by have := hr3.lt; omega) (by simp; omega) (HT.out.on hb3))
          clear hown hgrow hnw hal hb3 hr3 ho3
          go_wp2_with fail
          refine HC.out.mono ?_
          rintro e w4 ⟨v4, rfl, ho4, hb4⟩
          obtain ⟨a4, c4, rfl⟩ := ho4.shape
          rw [HME.out] at ho4 ⊢
          have HZ4 : Hid (KeyL w q.1 (.slice (some ⟨b, 0, none⟩) n sc) M (.slice a4 M.length c4) w4) := ⟨ho4, HN3.out.2.1.below hb4 (by omega), HN3.out.2.2.trans (hb4.mono (by omega))⟩
          obtain ⟨m4, hm4⟩ : ∃ m4, m4 = M.length := ⟨_, rfl⟩
          rw [← hm4] at HZ4 ⊢
          have HZ5 : Hid (m4 = (L ++ kpart x1 x2 (j + 1)).length ∧ KeyL w q.1 (.slice (some ⟨b, 0, none⟩) n sc) (L ++ kpart x1 x2 (j + 1)) (.slice a4 m4 c4) w4) := by
            show _ ∧ _
            rw [← HM.out]
            exact ⟨hm4, HZ4.out⟩
          clear ho4 hb4 hm4 HC HN3 HG HZ4
          go_wp2_with fail
          refine ⟨⟨j + 1, a4, m4, c4, rfl, by go_num, by omega, HZ5.out⟩, ?_⟩
          simp [intOf] <;> omega
    · obtain rfl : k = n := by omega
      have hltI : ¬ (k : Int) < (k : Int) := by omega
      have htk : q.2.take k = q.2 := by rw [HN.out]; exact List.take_length
      rw [htk] at h0 h1
      have hne : Lib.itoa q.1 ++ keyMore (spNums q.2) ≠ [] := by
        intro e
        have h5 := (List.append_eq_nil_iff.1 e).1
        have h6 : Lib.itoa (q.1 : Int) = Lib.decDigits q.1 := Lib.itoa_nonneg q.1
        rw [h6, Lib.decDigits] at h5
        split at h5 <;> simp at h5
      have hcv := h1.conv h0 hne
      have HB := hid h3
      clear h0 h1 h2 h3 htk hne HY
      go_wp2_with fail
      go_ret
      exact ⟨rfl, HB.out⟩
end Go.Proofs.YthnpbopnpdlmnaaDoor

/- Appends to long lists of parses. -/
namespace Go.Proofs.YthnpbopnpdlmnaaDoor
open Go.RowKit
attribute [local go_sem] gives givesUpon
theorem wpList_append_psB {ops : Array Oper} {rest : List Oper} {o : Oper} {a : Act} {w : World} {Q : Exit → Act → World → Prop} (hgd : o.guard = none) (s x : Operand)
    (ho : o.op = .call { callee := .builtin .append, args := #[s, x], argTypes := #[39, 39] }) (base : Nat) (v : Value) (l m : List Parse) (p : Nat → Prop) (u : Value) (hs : a.eval s = v) (hown : OwnP w base v l) (hx : a.eval x = u) (hsrc : PsQ p w u m)
    (hsz : l.length + m.length ≤ 40000000) (hbase : base ≤ w.heap.size)
    (h : ∀ a' n' c' w', n' = (l ++ m).length → OwnP w' base (.slice a' n' c') (l ++ m) → w.grownBy w' v.ownBlock → (∀ g, (Value.slice a' n' c').ownBlock = some g → v.ownBlock = some g ∨ w.heap.size ≤ g) → wpList Tryd.prog ops Q rest (a.put o.dst (.slice a' n' c')) w') : wpList Tryd.prog ops Q (o :: rest) a w := by
  obtain ⟨i0, hi, hz0, hz1, hz2⟩ := info_parts info_parse
  obtain ⟨h0, L, h1, h2, h3⟩ := hown
  rcases hsrc with ⟨rfl, rfl⟩ | ⟨hm, b, c, more, M, rfl, hp, k1, k2, k3⟩
  · refine wpList_append_own_none hgd s x 39 ho base 71 i0 2 Tryd.underlying39 hi v l.length (L.flatMap pcell) hs h3 hx ?_
    obtain ⟨a', c', e⟩ := ownsRow_shape h3
    have := h a' l.length c' w (by simp) (by rw [List.append_nil, ← e]; exact ⟨h0, L, h1, h2, h3⟩) ⟨rfl, rfl, rfl, Nat.le_refl _, fun _ _ _ => rfl⟩ (by rw [← e]; exact fun g hg => .inl hg)
    rw [← e] at this
    exact this
  · have hml : m.length = M.length := by rw [← k1]; simp
    refine wpList_append_row hgd s x 39 ho base 71 i0 (.agg #[.int .i64 0, .slice none 0 0]) 2 32 Tryd.underlying39 hi hz0 hz1 hz2 rfl (by decide) v l.length (L.flatMap pcell) hs h3 ⟨b, 0, none⟩ m.length c (M.flatMap pcell) hx (by rw [pcells_length, hml]) ?_ k2.one (by unfold maxLen; omega) (by omega) hbase (List.length_pos_iff.2 hm) fun a' c' w' g1 g2 g3 => ?_
    · intro j u hj
      rw [Addr.add_lit, Nat.zero_add, k3.cell j]
      exact List.getElem?_append_left (List.getElem?_eq_some_iff.1 hj).1 ▸ hj
    · exact h a' _ c' w' (List.length_append).symm (OwnP.app hm h1 k1 h2 k2 h3 g1 g2 rfl) g2 g3
end Go.Proofs.YthnpbopnpdlmnaaDoor
