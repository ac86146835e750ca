/- The reference of the parses: what a visit may change. -/
import Derived.Test.YtkinnfejgpnddaaDoorG14
import Derived.Deep.AppendLies
import Derived.Test.YtkinnfejgpnddaaDoorG09
import Derived.Test.YtkinnfejgpnddaaDoorG10
import Derived.Test.YtkinnfejgpnddaaDoorG11
namespace Go.Proofs.YtkinnfejgpnddaaDoor
open Go.RowKit
attribute [local go_sem] gives givesUpon

theorem gives_append_lies {P : Program} {o : Oper} {a : Act} {w : World} {K : Value → World → Prop} (s x : Operand) (t : TypeId)
    (ho : o.op = .call { callee := .builtin .append, args := #[s, x], argTypes := #[t, t] })
    (base : Nat) (e : TypeId) (i : TypeInfo) (z : Value) (size bytes : Nat) (ht : P.underlying t = some (.slice e)) (hi : P.info? e = some i) (hz : i.zero = some z)
    (hsize : i.size = size) (hby : i.bytes = bytes) (hzs : z.cells.size = size) (hsz : 0 < size)
    (v : Value) (n : Nat) (xs : List Value) (hs : a.eval s = v) (hown : w.ownsRow base e size v n xs)
    (ad : Addr) (m c : Nat) (news : List Value) (hx : a.eval x = .slice (some ad) m c) (hl : news.length = m * size) (hnews : ∀ j u, news[j]? = some u → w.cell? (ad.add j) = some u) (h1 : ∀ u ∈ news, u.oneCell' = true)
    (hm : 0 < m) (h63 : n + m ≤ maxLen) (hbytes : (n + m) * bytes ≤ 140737488355328) (hbase : base ≤ w.heap.size)
    (h : ∀ g cap w', w'.ownsRow base e size (.slice (some ⟨g, 0, none⟩) (n + m) cap) (n + m) (xs ++ news) → w.grownBy w' v.ownBlock → (v.ownBlock = some g ∨ g = w.heap.size) → g < w'.heap.size → K (.slice (some ⟨g, 0, none⟩) (n + m) cap) w') : gives P o a w K := by
  obtain ⟨g, cap, w', hrun, k1, k2, k3, k4⟩ := run_append_lies (P := P) w t o.type base e i z size bytes ht hi hz hsize hby hzs hsz v n xs hown ad m c news hl hnews h1 hm h63 hbytes hbase w.heap.size rfl
  unfold gives
  simp [execOp, ho, resolve, invoke, builtin, hs, hx, hrun, Result.andThen, givesUpon]
  exact h g cap w' k1 k2 k3 k4

/-- The block of a slice of one's own. -/
def blk (v : Value) : List Nat := v.ownBlock.toList
theorem mem_blk {v : Value} {g : Nat} : g ∈ blk v ↔ v.ownBlock = some g := by unfold blk; simp
/-- What a visit may change. -/
structure Fr (X : Nat) (w : World) (sv ov : Value) (w' : World) (sv' ov' : Value) : Prop where
  but : But (X :: (blk sv ++ blk ov)) w w'
  s : ∀ g, sv'.ownBlock = some g → sv.ownBlock = some g ∨ w.heap.size ≤ g
  o : ∀ g, ov'.ownBlock = some g → ov.ownBlock = some g ∨ w.heap.size ≤ g
theorem Fr.refl (X : Nat) (w : World) (sv ov : Value) : Fr X w sv ov w sv ov := ⟨But.refl _ _, fun _ h => .inl h, fun _ h => .inl h⟩
theorem Fr.of_below {X : Nat} {w w' : World} {sv ov : Value} (h : Below w.heap.size w w') : Fr X w sv ov w' sv ov := ⟨But.of_below h, fun _ h => .inl h, fun _ h => .inl h⟩
theorem Fr.trans {X : Nat} {a b c : World} {s0 o0 s1 o1 s2 o2 : Value} (h : Fr X a s0 o0 b s1 o1) (k : Fr X b s1 o1 c s2 o2) : Fr X a s0 o0 c s2 o2 := by
  refine ⟨h.but.later k.but fun i hi => ?_, fun g hg => ?_, fun g hg => ?_⟩
  · rcases List.mem_cons.1 hi with rfl | hi
    · exact .inl (by simp)
    · rcases List.mem_append.1 hi with hi | hi
      · exact (h.s i (mem_blk.1 hi)).imp (fun h1 => by simp [mem_blk.2 h1]) id
      · exact (h.o i (mem_blk.1 hi)).imp (fun h1 => by simp [mem_blk.2 h1]) id
  · rcases k.s g hg with h1 | h1
    · exact h.s g h1
    · exact .inr (Nat.le_trans h.but.size h1)
  · rcases k.o g hg with h1 | h1
    · exact h.o g h1
    · exact .inr (Nat.le_trans h.but.size h1)
section
variable {s : ByteArray} {lines : Bool} {E0 E1 E2 E3 E4 E5 E6 E7 E8 : Value} {base X : Nat} {sv ov : Value} {seen : List Sit} {out : List Parse}
theorem LpAt.span {x : World} (h : LpAt s lines E0 E1 E2 E3 E4 E5 E6 E7 E8 base X sv ov seen out x) {b : Nat} {cs : List Value} (hr : Row x b cs 46) : b ∉ X :: (blk sv ++ blk ov) := by
  intro hm
  rcases List.mem_cons.1 hm with rfl | hm
  · exact absurd (hr.typed h.1) (by decide)
  · rcases List.mem_append.1 hm with hm | hm
    · obtain ⟨cs', hr'⟩ := h.2.1.row (mem_blk.1 hm)
      exact absurd (hr.typed hr') (by decide)
    · obtain ⟨cs', hr'⟩ := h.2.2.1.row (mem_blk.1 hm)
      exact absurd (hr.typed hr') (by decide)
theorem LpAt.parse {x : World} (h : LpAt s lines E0 E1 E2 E3 E4 E5 E6 E7 E8 base X sv ov seen out x) {b : Nat} {cs : List Value} (hr : Row x b cs 48) (hb : ov.ownBlock ≠ some b) : b ∉ X :: (blk sv ++ blk ov) := by
  intro hm
  rcases List.mem_cons.1 hm with rfl | hm
  · exact absurd (hr.typed h.1) (by decide)
  · rcases List.mem_append.1 hm with hm | hm
    · obtain ⟨cs', hr'⟩ := h.2.1.row (mem_blk.1 hm)
      exact absurd (hr.typed hr') (by decide)
    · exact hb (mem_blk.1 hm)
theorem LpAt.sit {x : World} (h : LpAt s lines E0 E1 E2 E3 E4 E5 E6 E7 E8 base X sv ov seen out x) {b : Nat} {cs : List Value} (hr : Row x b cs 106) (hb : sv.ownBlock ≠ some b) : b ∉ X :: (blk sv ++ blk ov) := by
  intro hm
  rcases List.mem_cons.1 hm with rfl | hm
  · exact absurd (hr.typed h.1) (by decide)
  · rcases List.mem_append.1 hm with hm | hm
    · exact hb (mem_blk.1 hm)
    · obtain ⟨cs', hr'⟩ := h.2.2.1.row (mem_blk.1 hm)
      exact absurd (hr.typed hr') (by decide)
theorem LpAt.fr_span {w w' : World} {sv' ov' : Value} (h : LpAt s lines E0 E1 E2 E3 E4 E5 E6 E7 E8 base X sv ov seen out w) (hf : Fr X w sv ov w' sv' ov') {v : Value} {sp : Spans} (hs : SpQ w v sp) : SpQ w' v sp := hs.but hf.but fun _ _ hr => h.span hr
theorem LpAt.fr_ps {w w' : World} {sv' ov' : Value} (h : LpAt s lines E0 E1 E2 E3 E4 E5 E6 E7 E8 base X sv ov seen out w) (hf : Fr X w sv ov w' sv' ov') {v : Value} {l : List Parse} (hs : PsQ (fun b => ov.ownBlock ≠ some b) w v l) : PsQ (fun b => ov'.ownBlock ≠ some b) w' v l :=
  hs.of (fun b cs hr => hr.but hf.but (h.span hr)) fun b cs hp hr => ⟨hr.but hf.but (h.parse hr hp), fun e => by rcases hf.o b e with h1 | h1; exact hp h1; have := hr.lt; omega⟩
/-- All that is old and below the base stays. -/
theorem LpAt.fr_below {w w' : World} {sv' ov' : Value} (h : LpAt s lines E0 E1 E2 E3 E4 E5 E6 E7 E8 base X sv ov seen out w) (hf : Fr X w sv ov w' sv' ov') : Below base w w' :=
  hf.but.below (Nat.le_trans h.2.2.2 (Nat.le_of_lt h.1.lt)) fun k hk => by
    rcases List.mem_cons.1 hk with rfl | hk
    · exact h.2.2.2
    · rcases List.mem_append.1 hk with hk | hk
      · exact (h.2.1.lt k (mem_blk.1 hk)).1
      · exact (h.2.2.1.lt k (mem_blk.1 hk)).1
theorem LpAt.aside {x y : World} (h : LpAt s lines E0 E1 E2 E3 E4 E5 E6 E7 E8 base X sv ov seen out x) {b : Nat} {cs : List Value} (hb : But [b] x y) (hr : Row x b cs 106) (hne : sv.ownBlock ≠ some b) : LpAt s lines E0 E1 E2 E3 E4 E5 E6 E7 E8 base X sv ov seen out y := by
  have hn := h.sit hr hne
  simp only [List.mem_cons, List.mem_append, not_or, mem_blk] at hn
  have hsp : ∀ c cs', Row x c cs' 46 → Row y c cs' 46 := fun c cs' hr' => hr'.but hb (fun hm => by
    have := List.mem_singleton.1 hm
    subst this
    exact absurd (hr.typed hr') (by decide))
  exact ⟨h.1.but hb (fun hm => hn.1 (List.mem_singleton.1 hm).symm), h.2.1.keep hsp fun g hg => hb.block g (h.2.1.lt g hg).2 (fun hm => hn.2.1 ((List.mem_singleton.1 hm) ▸ hg)), h.2.2.1.keep hsp fun g hg => hb.block g (h.2.2.1.lt g hg).2 (fun hm => hn.2.2 ((List.mem_singleton.1 hm) ▸ hg)), h.2.2.2⟩
/-- A situation more. -/
theorem LpAt.push {w x y : World} {g c n : Nat} {st : Sit} {sa : Option Addr} {sc : Nat} {L : List (Sit × Value)} (h : LpAt s lines E0 E1 E2 E3 E4 E5 E6 E7 E8 base X sv ov seen out x) (hL : L.map Prod.fst = seen) (hSL : SL x L) (hrow : x.ownsRow base 106 3 sv n (L.flatMap scell)) (hn : n = seen.length) (hsq : SpQ x (.slice sa st.2.2.length sc) st.2.2)
    (ho : y.ownsRow base 106 3 (.slice (some ⟨g, 0, none⟩) (n + 1) c) (n + 1) (L.flatMap scell ++ [.int .i64 st.1, .int .i64 st.2.1, .slice sa st.2.2.length sc])) (hg : x.grownBy y sv.ownBlock) (hw : w = y.setCell ⟨X, 11, none⟩ (.slice (some ⟨g, 0, none⟩) (n + 1) c)) :
    LpAt s lines E0 E1 E2 E3 E4 E5 E6 E7 E8 base X (.slice (some ⟨g, 0, none⟩) (n + 1) c) ov (seen ++ [st]) out w := by
  subst hw
  have hX : Row y X [.string s, .bool lines, E0, E1, E2, E3, E4, E5, E6, E7, E8, sv, ov] 103 := h.1.grownOwn hrow (by decide) hg
  have hsp : ∀ b cs, Row x b cs 46 → Row y b cs 46 := fun b cs hr => hr.grownOwn hrow (by decide) hg
  have hsp2 : ∀ b cs, Row y b cs 46 → Row (y.setCell ⟨X, 11, none⟩ (.slice (some ⟨g, 0, none⟩) (n + 1) c)) b cs 46 := fun b cs hr => hr.other (fun e => by subst e; exact absurd (hr.typed hX) (by decide)) _ _
  have hS : OwnS y base (.slice (some ⟨g, 0, none⟩) (n + 1) c) (seen ++ [st]) := by
    refine ⟨L ++ [(st, .slice sa st.2.2.length sc)], by rw [List.map_append, hL]; rfl, fun z hz => ?_, ?_⟩
    · rcases List.mem_append.1 hz with hz | hz
      · exact (hSL z hz).of hsp
      · have := List.mem_singleton.1 hz; subst this; exact hsq.of hsp
    · rw [List.length_append, ← hn, List.flatMap_append]
      exact ho
  have hO : OwnP y base ov (nub out) := h.2.2.1.keep hsp fun g' hg' => hg.block g' (h.2.2.1.lt g' hg').2 fun e => by
    obtain ⟨cs1, r1⟩ := h.2.2.1.row hg'
    obtain ⟨cs2, r2⟩ := h.2.1.row e.symm
    exact absurd (r1.typed r2) (by decide)
  refine ⟨hX.set 11 _, hS.keep hsp2 fun g' hg' => Below.heap_setCell _ _ _ _ fun e => ?_, hO.keep hsp2 fun g' hg' => Below.heap_setCell _ _ _ _ fun e => ?_, h.2.2.2⟩
  · obtain ⟨cs1, r1⟩ := hS.row hg'
    subst e; exact absurd (r1.typed hX) (by decide)
  · obtain ⟨cs1, r1⟩ := hO.row hg'
    subst e; exact absurd (r1.typed hX) (by decide)
/-- Another list of parses. -/
theorem LpAt.newOut {w x y : World} {a : Option Addr} {n c : Nat} {out' : List Parse} (h : LpAt s lines E0 E1 E2 E3 E4 E5 E6 E7 E8 base X sv ov seen out x) (ho : OwnP y base (.slice a n c) (nub out')) (hg : x.grownBy y ov.ownBlock) (hw : w = y.setCell ⟨X, 12, none⟩ (.slice a n c)) :
    LpAt s lines E0 E1 E2 E3 E4 E5 E6 E7 E8 base X sv (.slice a n c) seen out' w := by
  subst hw
  obtain ⟨_, Lo, o1, o2, o3⟩ := h.2.2.1
  have hX : Row y X [.string s, .bool lines, E0, E1, E2, E3, E4, E5, E6, E7, E8, sv, ov] 103 := h.1.grownOwn o3 (by decide) hg
  have hsp : ∀ b cs, Row x b cs 46 → Row y b cs 46 := fun b cs hr => hr.grownOwn o3 (by decide) hg
  have hsp2 : ∀ b cs, Row y b cs 46 → Row (y.setCell ⟨X, 12, none⟩ (.slice a n c)) b cs 46 := fun b cs hr => hr.other (fun e => by subst e; exact absurd (hr.typed hX) (by decide)) _ _
  have hS : OwnS y base sv seen := h.2.1.keep hsp fun g' hg' => hg.block g' (h.2.1.lt g' hg').2 fun e => by
    obtain ⟨cs1, r1⟩ := h.2.1.row hg'
    obtain ⟨cs2, r2⟩ := h.2.2.1.row e.symm
    exact absurd (r1.typed r2) (by decide)
  refine ⟨hX.set 12 _, hS.keep hsp2 fun g' hg' => Below.heap_setCell _ _ _ _ fun e => ?_, ho.keep hsp2 fun g' hg' => Below.heap_setCell _ _ _ _ fun e => ?_, h.2.2.2⟩
  · obtain ⟨cs1, r1⟩ := hS.row hg'
    subst e; exact absurd (r1.typed hX) (by decide)
  · obtain ⟨cs1, r1⟩ := ho.row hg'
    subst e; exact absurd (r1.typed hX) (by decide)
end
/-- The situations and parses so far, within bounds. -/
def StOk (N L : Nat) (st : List Sit × List Parse) : Prop := (∀ y, y ∈ st.1 → y.2.2.length ≤ 9) ∧ st.1.length ≤ 4096 ∧ st.2.length ≤ st.1.length ∧ ∀ q, q ∈ st.2 → POk N L 0 q
/-- What a visit leaves. -/
def VisPost (N : Nat) (s : ByteArray) (lines : Bool) (E0 E1 E2 E3 E4 E5 E6 E7 E8 : Value) (base X : Nat) (sv ov : Value) (m : Nat) (w : World) (r : Option (List Sit × List Parse)) (e : Ending) (w' : World) : Prop :=
  ∃ sv' ov', e = .returned (.bool r.isSome) ∧ Fr X w sv ov w' sv' ov' ∧ ∀ st', r = some st' → LpAt s lines E0 E1 E2 E3 E4 E5 E6 E7 E8 base X sv' ov' st'.1 st'.2 w' ∧ StOk N s.size st' ∧ m ≤ st'.1.length
end Go.Proofs.YtkinnfejgpnddaaDoor

/- The program of layer 9: anchors, and adding a parse. -/
namespace Go.Proofs.YtkinnfejgpnddaaDoor
open Go.RowKit
attribute [local go_sem] gives givesUpon

set_option maxRecDepth 100000 in
set_option maxHeartbeats 8000000 in
theorem pbegins_any (w : World) (M : Nat) (s : ByteArray) (lines : Bool) (i : Nat) (hM : Row w M [.string s, .bool lines] 66) (hi : i ≤ s.size) (hs : s.size ≤ 1000000) :
    Calls Tryd.prog 64 #[.pointer (some ⟨M, 0, none⟩), .int .i64 i] w fun e w' => e = .returned (.bool (holdsOf s.data.toList lines 7 i)) ∧ Below w.heap.size w w' := by
  have HB := hid (Below.refl w.heap.size w)
  have q0 := hM.cell 0
  have q1 := hM.cell 1
  have hsl : s.data.toList.length = s.size := by rw [Array.length_toList]; rfl
  have HSL := hid hsl
  clear hsl hM
  rcases Nat.eq_zero_or_pos i with rfl | h0
  · have HPL : Hid (holdsOf s.data.toList lines 7 0 = true) := by show _ = _; unfold holdsOf; simp
    go_enter Tryd.func64, Tryd.ntmps64
    go_wp2_with fail
    all_goals go_ret
    all_goals exact ⟨ret_bool (by rw [HPL.out]; try rfl), HB.out⟩
  · obtain ⟨j, rfl⟩ : ∃ j, i = j + 1 := ⟨i - 1, by omega⟩
    have hj : (j : Int) < s.size := by omega
    have hwj : IntKind.i64.wrap (j : Int) = j := by rw [IntKind.wrap_i64]; omega
    have d0 : ((j : Int) + 1 == 0) = false := by simp; omega
    have hbt : byteAt s.data.toList j = s[j] := byteAt_eq (by omega)
    rcases Bool.eq_false_or_eq_true lines with hln | hln
    · subst hln
      by_cases hb : s[j].toNat = 10
      · have HPL : Hid (holdsOf s.data.toList true 7 (j + 1) = true) := by show _ = _; unfold holdsOf; simp [hbt, ← UInt8.toNat_inj, hb]
        have d1 : ((s[j].toNat : Int) == 10) = true := by simp; omega
        go_enter Tryd.func64, Tryd.ntmps64
        go_wp2_with fail
        all_goals go_ret
        all_goals exact ⟨ret_bool (by rw [HPL.out]; try rfl), HB.out⟩
      · have HPL : Hid (holdsOf s.data.toList true 7 (j + 1) = false) := by show _ = _; unfold holdsOf; simp [hbt, ← UInt8.toNat_inj, hb]
        have d1 : ((s[j].toNat : Int) == 10) = false := by simp; omega
        go_enter Tryd.func64, Tryd.ntmps64
        go_wp2_with fail
        all_goals go_ret
        all_goals exact ⟨ret_bool (by rw [HPL.out]; try rfl), HB.out⟩
    · subst hln
      have HPL : Hid (holdsOf s.data.toList false 7 (j + 1) = false) := by show _ = _; unfold holdsOf; simp
      go_enter Tryd.func64, Tryd.ntmps64
      go_wp2_with fail
      all_goals go_ret
      all_goals exact ⟨ret_bool (by rw [HPL.out]; try rfl), HB.out⟩

set_option maxRecDepth 100000 in
set_option maxHeartbeats 8000000 in
theorem pends_any (w : World) (M : Nat) (s : ByteArray) (lines : Bool) (i : Nat) (hM : Row w M [.string s, .bool lines] 66) (hi : i ≤ s.size) (_hs : s.size ≤ 1000000) :
    Calls Tryd.prog 65 #[.pointer (some ⟨M, 0, none⟩), .int .i64 i] w fun e w' => e = .returned (.bool (holdsOf s.data.toList lines 8 i)) ∧ Below w.heap.size w w' := by
  have HB := hid (Below.refl w.heap.size w)
  have q0 := hM.cell 0
  have q1 := hM.cell 1
  have hsl : s.data.toList.length = s.size := by rw [Array.length_toList]; rfl
  have HSL := hid hsl
  clear hsl hM
  rcases Nat.lt_or_ge i s.size with hkl | hkl
  rotate_left
  · have d0 : ((i : Int) == (s.size : Int)) = true := by simp; omega
    have HPL : Hid (holdsOf s.data.toList lines 8 i = true) := by show _ = _; unfold holdsOf; rw [HSL.out]; simp; left; omega
    go_enter Tryd.func65, Tryd.ntmps65
    go_wp2_with fail
    all_goals go_ret
    all_goals exact ⟨ret_bool (by rw [HPL.out]; try rfl), HB.out⟩
  · have hj : (i : Int) < s.size := by omega
    have d0 : ((i : Int) == (s.size : Int)) = false := by simp; omega
    have hbt : byteAt s.data.toList i = s[i] := byteAt_eq (by omega)
    rcases Bool.eq_false_or_eq_true lines with hln | hln
    · subst hln
      by_cases hb : s[i].toNat = 10
      · have HPL : Hid (holdsOf s.data.toList true 8 i = true) := by show _ = _; unfold holdsOf; simp [hbt, ← UInt8.toNat_inj, hb]
        have d1 : ((s[i].toNat : Int) == 10) = true := by simp; omega
        go_enter Tryd.func65, Tryd.ntmps65
        go_wp2_with fail
        all_goals go_ret
        all_goals exact ⟨ret_bool (by rw [HPL.out]; try rfl), HB.out⟩
      · have HPL : Hid (holdsOf s.data.toList true 8 i = false) := by show _ = _; unfold holdsOf; rw [HSL.out]; simp [hbt, ← UInt8.toNat_inj, hb]; omega
        have d1 : ((s[i].toNat : Int) == 10) = false := by simp; omega
        go_enter Tryd.func65, Tryd.ntmps65
        go_wp2_with fail
        all_goals go_ret
        all_goals exact ⟨ret_bool (by rw [HPL.out]; try rfl), HB.out⟩
    · subst hln
      have HPL : Hid (holdsOf s.data.toList false 8 i = false) := by show _ = _; unfold holdsOf; rw [HSL.out]; simp; omega
      go_enter Tryd.func65, Tryd.ntmps65
      go_wp2_with fail
      all_goals go_ret
      all_goals exact ⟨ret_bool (by rw [HPL.out]; try rfl), HB.out⟩
/-- The variable out, and its list. -/
def OutV (OB : Nat) (ov : Value) (l : List Parse) (w : World) : Prop := Row w OB [ov] 33 ∧ OwnP w (OB + 1) ov l
theorem OutV.below {OB : Nat} {ov : Value} {l : List Parse} {w w' : World} (h : OutV OB ov l w) (hb : Below w.heap.size w w') : OutV OB ov l w' := ⟨h.1.below hb h.1.lt, h.2.below hb⟩
/-- What a change of out leaves. -/
def OutPost (OB : Nat) (ov : Value) (w : World) (ov' : Value) (l : List Parse) (w' : World) : Prop := OutV OB ov' l w' ∧ But (OB :: blk ov) w w' ∧ ∀ g, ov'.ownBlock = some g → ov.ownBlock = some g ∨ w.heap.size ≤ g
theorem OutPost.low {OB : Nat} {ov ov' : Value} {l l0 : List Parse} {w w' : World} (h : OutPost OB ov w ov' l w') (h0 : OutV OB ov l0 w) : Below OB w w' :=
  h.2.1.below (Nat.le_of_lt h0.1.lt) fun k hk => by
    rcases List.mem_cons.1 hk with rfl | hk
    · exact Nat.le_refl _
    · have := (h0.2.lt k (mem_blk.1 hk)).1
      omega
/-- A store of another list into out, after an append. -/
theorem OutV.put {OB : Nat} {ov : Value} {l l' : List Parse} {x y w' : World} {a : Option Addr} {n c : Nat} (h : OutV OB ov l x) (ho : OwnP y (OB + 1) (.slice a n c) l') (hg : x.grownBy y ov.ownBlock) (hnew : ∀ g, (Value.slice a n c).ownBlock = some g → ov.ownBlock = some g ∨ x.heap.size ≤ g) (hw : w' = y.setCell ⟨OB, 0, none⟩ (.slice a n c)) : OutPost OB ov x (.slice a n c) l' w' := by
  subst hw
  obtain ⟨_, Lo, o1, o2, o3⟩ := h.2
  have hX : Row y OB [ov] 33 := h.1.grownOwn o3 (by decide) hg
  have hne : ∀ g, (Value.slice a n c).ownBlock = some g → g ≠ OB := fun g hg' e => by
    have := (ho.lt g hg').1
    omega
  refine ⟨⟨hX.set 0 _, ho.keep (fun b cs hr => hr.other (fun e => by subst e; exact absurd (hr.typed hX) (by decide)) _ _) (fun g' hg' => Below.heap_setCell _ _ _ _ (hne g' hg'))⟩, ?_, hnew⟩
  exact (⟨hg.os, hg.tape, hg.output, hg.size, fun k hk hk2 => hg.block k hk (fun e => hk2 (by simp [mem_blk.2 e.symm]))⟩ : But (OB :: blk ov) x y).setCell (p := ⟨OB, 0, none⟩) (.inl (by simp)) _
-- def FC := (*texttools/rematch.matcher).parses$1
-- def W1 := (w.alloc (.cells #[.int .i64 q.1, .slice sa q.2.length sc] 48))
-- def W2 := ((w.alloc (.cells #[.int .i64 q.1, .slice sa q.2.length sc] 48)).alloc (.cells #[.int .i64 q.1, .slice sa q.2.length sc] 48))
/-- What add leaves. -/
def AddP (OB : Nat) (ov : Value) (w : World) (l : List Parse) (e : Ending) (w' : World) : Prop := e = .returned (.tuple #[]) ∧ ∃ ov', OutPost OB ov w ov' l w'
set_option maxRecDepth 100000 in
set_option maxHeartbeats 8000000 in
theorem padd_any (w : World) (OB : Nat) (ov : Value) (l : List Parse) (ok : Bool) (q : Parse) (sa : Option Addr) (sc : Nat) (h : OutV OB ov l w) (hl : l.length ≤ 200000) (hsp : SpQ w (.slice sa q.2.length sc) q.2) :
    Calls Tryd.prog 62 #[.bool ok, .agg #[.int .i64 q.1, .slice sa q.2.length sc], .pointer (some ⟨OB, 0, none⟩)] w (AddP OB ov w (if ok = true then l ++ [q] else l)) := by
  obtain ⟨va, vc, rfl⟩ := h.2.form
  obtain ⟨vn, hvn⟩ : ∃ vn, vn = l.length := ⟨_, rfl⟩
  rw [← hvn] at h hl ⊢
  have hb1 : Below w.heap.size w (w.alloc (.cells #[.int .i64 q.1, .slice sa q.2.length sc] 48)) := (Below.refl _ _).alloc (Nat.le_refl _) _
  cases ok with
  | false =>
    simp only [Bool.false_eq_true, if_false]
    have HF : Hid (AddP OB (.slice va vn vc) w l (.returned (.tuple #[])) (w.alloc (.cells #[.int .i64 q.1, .slice sa q.2.length sc] 48))) := ⟨rfl, _, h.below hb1, But.of_below hb1, fun g hg => .inl hg⟩
    clear h hb1 hsp hvn
    go_enter Tryd.func62, Tryd.ntmps62
    go_wp2_with fail
    go_end0
    exact HF.out
  | true =>
    simp only [if_true]
    have HVN := hid hvn
    have h1 := h.below hb1
    have H1 := hid (⟨h1, hsp.below hb1, hb1⟩ : _ ∧ _ ∧ _)
    have q0 := h1.1.cell 0
    have f0 := h1.1.free 0
    have hlt := h.1.lt
    have hne : OB ≠ w.heap.size := by omega
    have hol := h1.2.lt
    clear h hb1 hsp hvn h1
    go_enter Tryd.func62, Tryd.ntmps62
    go_wp2_with (at_builtin; refine wpList_append_ps rfl _ _ rfl (OB + 1) _ l [q] _ _ rfl ?c0 rfl (PsQ.lit (Row.new (by simp)) ?c1) ?c2 ?c3 ?_)
    case c0 => exact H1.out.1.2.below ((Below.refl _ _).alloc (Nat.le_refl _) _)
    case c1 => exact H1.out.2.1.below ((Below.refl _ _).alloc (Nat.le_refl _) _)
    case c2 => rw [← HVN.out]; simp; omega
    case c3 => simp; omega
    intro a2 n2 c2 w3 hn2 hown hg hnew
    have hal : Below ((w.alloc (.cells #[.int .i64 q.1, .slice sa q.2.length sc] 48))).heap.size (w.alloc (.cells #[.int .i64 q.1, .slice sa q.2.length sc] 48)) ((w.alloc (.cells #[.int .i64 q.1, .slice sa q.2.length sc] 48)).alloc (.cells #[.int .i64 q.1, .slice sa q.2.length sc] 48)) := (Below.refl _ _).alloc (Nat.le_refl _) _
    have h2 := H1.out.1.below hal
    have hX3 : Row w3 OB [.slice va vn vc] 33 := by
      obtain ⟨_, Lo, o1, o2, o3⟩ := h2.2
      exact h2.1.grownOwn o3 (by decide) hg
    have q1 := hX3.cell 0
    have f1 := hX3.free 0
    have hp := h2.put hown hg (by simpa using hnew) rfl
    have HF : Hid (AddP OB (.slice va vn vc) w (l ++ [q]) (.returned (.tuple #[])) (w3.setCell ⟨OB, 0, none⟩ (.slice a2 n2 c2))) := by
      have hb2 := H1.out.2.2.trans (hal.mono H1.out.2.2.size)
      refine ⟨rfl, _, hp.1, (But.of_below hb2 : But (OB :: blk (.slice va vn vc)) w _).later hp.2.1 (fun i hi => .inl hi), fun g hg' => ?_⟩
      rcases hp.2.2 g hg' with h | h
      · exact .inl h
      · exact .inr (Nat.le_trans hb2.size h)
    clear hn2 hown hg hnew hal h2 hX3 hp q0 f0
    go_wp2_with fail
    go_end0
    exact HF.out
end Go.Proofs.YtkinnfejgpnddaaDoor

/- The program of layer 9: the contract of parses. -/
namespace Go.Proofs.YtkinnfejgpnddaaDoor
open Go.RowKit
attribute [local go_sem] gives givesUpon

/-- The contract of the program's parses. -/
def PPar (wb : World) (N : Nat) (s : ByteArray) (lines : Bool) (t : Re) : Prop := ∀ (w : World) (cs : List Value) (M : Nat) (sa : Option Addr) (sc : Nat) (sp : Spans) (i : Nat), t.In wb cs → t.ok N → t.size ≤ 20 → Below wb.heap.size wb w → Row w M [.string s, .bool lines] 66 → SpQ w (.slice sa sp.length sc) sp → SpOk N s.size sp → i ≤ s.size → Tabs9 w →
  Calls Tryd.prog 46 #[.pointer (some ⟨M, 0, none⟩), .agg cs.toArray, .int .i64 i, .slice sa sp.length sc] w (ParP w (parses s.data.toList lines t i sp))
theorem ParP.on {w w1 : World} {r r' : Option (List Parse)} {e : Ending} {w' : World} (h : ParP w1 r e w') (hb : Below w.heap.size w w1) (hr : r = r') : ParP w r' e w' := by
  subst hr
  refine ⟨hb.trans (h.1.mono hb.size), ?_⟩
  cases r with
  | none => exact h.2
  | some l =>
    obtain ⟨a, c, h1, h2⟩ := h.2
    exact ⟨a, c, h1, h2.mono fun b _ hbb => Nat.le_trans hb.size hbb⟩
/-- The end: out is sorted. -/
theorem pend_any (w z : World) (OB : Nat) (ov : Value) (l : List Parse) (N K : Nat) (r : Option (List Parse)) (ho : OutV OB ov l z) (hb : Below w.heap.size w z) (hl : l.length ≤ 200000) (hok : ∀ q, q ∈ l → POk N K 0 q) (hN : N ≤ 9) (hK : K ≤ 1000000) (ht : Tabs9 w) (hr : fin K l = r) :
    Calls Tryd.prog 69 #[ov] z (ParP w r) :=
  (psorted_any z _ ov l K ho.2.psq hl (fun q hq => (hok q hq).fine hN hK) (fun q hq => (hok q hq).2.1) (ht.on hb)).mono fun _ _ h => h.on hb hr
-- def BX := [.int .i64 p.op, .int .u64 p.set.a, .int .u64 p.set.b, .int .u64 p.set.c, .int .u64 p.set.d, .int .i64 p.lo, .int .i64 p.hi, .int .i64 p.gr, .slice ad xs.length cap]
-- def W3 := (((w.alloc (.cells #[.int .i64 p.op, .int .u64 p.set.a, .int .u64 p.set.b, .int .u64 p.set.c, .int .u64 p.set.d, .int .i64 p.lo, .int .i64 p.hi, .int .i64 p.gr, .slice ad xs.length cap] 28)).alloc (.cells #[.int .i64 i, .slice sa sp.length sc] 48)).alloc (.cells #[.slice none 0 0] 33))
/-- The blocks of a call of parses. -/
def PAt (w : World) (M : Nat) (s : ByteArray) (lines : Bool) (BXL : List Value) (iv sv : Value) (x : World) : Prop := Row x w.heap.size BXL 28 ∧ Row x (w.heap.size + 1) [iv, sv] 48 ∧ Row x M [.string s, .bool lines] 66 ∧ Below w.heap.size w x
theorem PAt.later {w : World} {M : Nat} {s : ByteArray} {lines : Bool} {BXL : List Value} {iv sv : Value} {x y : World} (h : PAt w M s lines BXL iv sv x) (hb : Below x.heap.size x y) : PAt w M s lines BXL iv sv y :=
  ⟨h.1.below hb h.1.lt, h.2.1.below hb h.2.1.lt, h.2.2.1.below hb h.2.2.1.lt, h.2.2.2.trans (hb.mono h.2.2.2.size)⟩
theorem PAt.low {w : World} {M : Nat} {s : ByteArray} {lines : Bool} {BXL : List Value} {iv sv : Value} {x y : World} {n : Nat} (h : PAt w M s lines BXL iv sv x) (hb : Below n x y) (hn : w.heap.size + 2 ≤ n) (hM : M < w.heap.size) : PAt w M s lines BXL iv sv y :=
  ⟨h.1.below hb (by omega), h.2.1.below hb (by omega), h.2.2.1.below hb (by omega), h.2.2.2.trans (hb.mono (by omega))⟩
-- def FN := (*texttools/rematch.matcher).parses
set_option maxRecDepth 100000 in
set_option maxHeartbeats 16000000 in
theorem ppar1 (wb : World) (N : Nat) (hN : N ≤ 9) (s : ByteArray) (hs : s.size ≤ 1000000) (lines : Bool) (p : Pay) (xs : List Re) (hop : p.op = 1) : PPar wb N s lines (.mk p xs) := by
  intro w cs M sa sc sp i hIn hok hsz hbw hM hsp hspo hi ht
  rw [Re.In] at hIn
  obtain ⟨ad, cap, rfl, -, -, -, -, -⟩ := hIn
  simp only [Pay.cells]
  have hP : PAt w M s lines [.int .i64 p.op, .int .u64 p.set.a, .int .u64 p.set.b, .int .u64 p.set.c, .int .u64 p.set.d, .int .i64 p.lo, .int .i64 p.hi, .int .i64 p.gr, .slice ad xs.length cap] (.int .i64 i) (.slice sa sp.length sc) (((w.alloc (.cells #[.int .i64 p.op, .int .u64 p.set.a, .int .u64 p.set.b, .int .u64 p.set.c, .int .u64 p.set.d, .int .i64 p.lo, .int .i64 p.hi, .int .i64 p.gr, .slice ad xs.length cap] 28)).alloc (.cells #[.int .i64 i, .slice sa sp.length sc] 48)).alloc (.cells #[.slice none 0 0] 33)) := ⟨((Row.new rfl).alloc _).alloc _, (Row.new (by simp)).alloc _, ((hM.alloc _).alloc _).alloc _, (((Below.refl _ _).alloc (Nat.le_refl _) _).alloc (by simp) _).alloc (by simp; omega) _⟩
  have hO : OutV (w.heap.size + 2) (.slice none 0 0) [] (((w.alloc (.cells #[.int .i64 p.op, .int .u64 p.set.a, .int .u64 p.set.b, .int .u64 p.set.c, .int .u64 p.set.d, .int .i64 p.lo, .int .i64 p.hi, .int .i64 p.gr, .slice ad xs.length cap] 28)).alloc (.cells #[.int .i64 i, .slice sa sp.length sc] 48)).alloc (.cells #[.slice none 0 0] 33)) := ⟨Row.new (by simp), OwnP.nil _ _⟩
  have q0 := hP.1.c9
  have q1 := hP.2.1.two9
  have HA := hid (padd_any (((w.alloc (.cells #[.int .i64 p.op, .int .u64 p.set.a, .int .u64 p.set.b, .int .u64 p.set.c, .int .u64 p.set.d, .int .i64 p.lo, .int .i64 p.hi, .int .i64 p.gr, .slice ad xs.length cap] 28)).alloc (.cells #[.int .i64 i, .slice sa sp.length sc] 48)).alloc (.cells #[.slice none 0 0] 33)) (w.heap.size + 2) (.slice none 0 0) [] true (i, sp) sa sc hO (by simp) (hsp.below hP.2.2.2))
  have HP := hid (⟨hP, hO⟩ : _ ∧ _)
  have HT := hid ht
  have HPA : Hid (parses s.data.toList lines (.mk p xs) i sp = some [(i, sp)]) := by show _ = _; rw [parses]; simp [hop]
  have HQ : Hid (∀ q, q ∈ [((i, sp) : Parse)] → POk N s.size 0 q) := fun q hq => by rw [List.mem_singleton.1 hq]; exact ⟨Nat.zero_le _, hi, hspo⟩
  have HO := hid hop
  have e1 : (p.op == 1) = true := by rw [hop]; decide
  have HFI := hid (fin_one (L := s.size) (q := (i, sp)) hi)
  clear hP hO hok hsz hbw hM hsp hspo ht hop
  go_enter Tryd.func46, Tryd.ntmps46
  go_wp2_with fail
  refine HA.out.mono ?_
  rintro e z ⟨rfl, ov, hz⟩
  have HZ := hid (⟨hz.1, HP.out.1.2.2.2.trans ((hz.low HP.out.2).mono (by omega))⟩ : _ ∧ Below w.heap.size w z)
  have q2 := HZ.out.1.1.cell 0
  have HE := hid (pend_any w z _ ov [(i, sp)] N s.size _ HZ.out.1 HZ.out.2 (by simp) HQ.out hN hs HT.out HFI.out)
  clear hz q0 q1 HA
  go_wp2_with fail
  refine HE.out.mono ?_
  rintro e z2 ⟨hb2, a2, c2, rfl, h2⟩
  have HR := hid (⟨hb2, h2⟩ : _ ∧ _)
  clear hb2 h2
  go_wp2_with fail
  go_ret
  rw [HPA.out]
  exact ⟨HR.out.1, a2, c2, rfl, HR.out.2⟩
end Go.Proofs.YtkinnfejgpnddaaDoor

/- A region that draws its order and holds one call that panics: what comes before it in whatever order reads or grows; what waits for it never runs. Nothing here speaks of the program. -/
namespace Go.Proofs.YtkinnfejgpnddaaDoor
open Go.RowKit

section
variable {P : Program} {ops : Array Oper} {Q : Exit → Act → World → Prop}

/-- Operation n waits for no later one, and all behind it wait for one from n on. -/
def planP (ops : Array Oper) (n m : Nat) : Bool :=
  decide (n < ops.size) &&
  ((List.range ops.size).all fun i => (List.range ops.size).all fun j => decide (i = j) || (dstOf ops i).isNone || decide (dstOf ops i ≠ dstOf ops j)) &&
  ((List.range ops.size).all fun i => match dstOf ops i with | some d => decide (d < m) | none => true) &&
  (match ops[n]? with | some o => o.guard.isNone | none => false) &&
  ((List.range ops.size).all fun t => decide (t ≤ n) || (List.range t).any fun j => decide (n ≤ j) && waits ops t j) &&
  ((List.range ops.size).all fun t => match ops[t]? with | some o => o.after.all fun e => !Region.binds .any e || decide (e.on < t) | none => true)
theorem planP_B {n m : Nat} (h : planP ops n m = true) : planB ops ops.size m = true := by
  simp only [planP, Bool.and_eq_true, decide_eq_true_eq] at h
  obtain ⟨⟨⟨⟨⟨h1, h2⟩, h3⟩, h4⟩, h5⟩, h6⟩ := h
  simp only [planB, Bool.and_eq_true, Bool.or_eq_true, decide_eq_true_eq]
  refine ⟨⟨⟨⟨⟨Nat.le_refl _, h2⟩, h3⟩, .inl trivial⟩, ?_⟩, h6⟩
  exact List.all_eq_true.2 fun t ht => by
    have := List.mem_range.1 ht
    simp; left; omega

def givesUponP (P : Program) (K : List PanicEntry → World → Prop) : Result Next → Prop
  | .ok (.enter f args) w' => Calls P f args w' fun e w'' => ∃ c, e = .panicked c ∧ K c w''
  | .halt (.panic v) w' => K [{ v, recovered := false }] w'
  | _ => False
/-- The operation ends in a panic. -/
def givesPan (P : Program) (o : Oper) (a : Act) (w : World) (K : List PanicEntry → World → Prop) : Prop := givesUponP P K ((execOp a.eval o).run P w)
theorem givesPan.wp {o : Oper} {a : Act} {w : World} {K : List PanicEntry → World → Prop} {K' : Act → World → Prop} (h : givesPan P o a w K) (hk : ∀ c w', K c w' → Q (.panic c) a w') : o.wp P a w K' Q := by
  unfold givesPan at h
  unfold Oper.wp
  generalize (execOp a.eval o).run P w = r at *
  cases r with
  | ok n w' =>
    cases n <;> simp only [givesUponP] at h <;> simp only [Oper.upon]
    case enter f args => exact h.mono fun e w'' ⟨c, he, hK⟩ => by subst he; exact hk _ _ hK
  | halt x w' =>
    cases x <;> simp only [givesUponP] at h
    exact hk _ _ h

theorem inv_pan {n m : Nat} {R : World → World → Prop} {w0 : World} {a0 : Act} {φ : Nat → Value → World → Prop} (htr : ∀ x y z, R x y → R y z → R x z) (hrf : ∀ x, R x x) (hφ : ∀ i v x y, R x y → φ i v x → φ i v y)
    (hB : planP ops n m = true)
    (hop : ∀ i o, i < n → ops[i]? = some o → ∀ vs w, R w0 w → (∀ j, j < n → waits ops i j = true → φ j (vs j) w) → StepOf P ops R (φ i) o (fill ops vs n a0) w)
    (hpan : ∀ o, ops[n]? = some o → ∀ vs w, R w0 w → (∀ j, j < n → waits ops n j = true → φ j (vs j) w) → givesPan P o (fill ops vs n a0) w fun c w' => ∀ A, A.defers = (fill ops vs n a0).defers → Q (.panic c) A w') :
    ∀ (fuel : Nat) (listed : Array Bool) (a : Act) (w : World), Inv ops n R w0 a0 φ listed a w → left ops listed ≤ fuel → wpAny P .any ops Q fuel listed a w := by
  have hB0 := planP_B hB
  simp only [planP, Bool.and_eq_true, decide_eq_true_eq] at hB
  obtain ⟨⟨⟨⟨⟨hn, hdist⟩, hbnd⟩, hgd⟩, hc⟩, _⟩ := hB
  have hdist' : ∀ i j, i < n → j < n → j ≠ i → dstOf ops i = none ∨ dstOf ops i ≠ dstOf ops j := by
    intro i j hi hj hne
    have h1 := List.all_eq_true.1 (List.all_eq_true.1 hdist i (List.mem_range.2 (by omega))) j (List.mem_range.2 (by omega))
    simp only [Bool.or_eq_true, decide_eq_true_eq, Option.isNone_iff_eq_none] at h1
    rcases h1 with (h1 | h1) | h1
    · omega
    · exact .inl h1
    · exact .inr h1
  intro fuel
  induction fuel with
  | zero =>
    intro listed a w inv hl
    exfalso
    have : 0 < left ops listed := by
      unfold left
      refine List.countP_pos_iff.2 ⟨n, List.mem_range.2 hn, ?_⟩
      rw [inv.tail n (Nat.le_refl _) hn]; rfl
    omega
  | succ fuel ih =>
    intro listed a w inv hl
    refine ⟨fun h0 => absurd h0 (least_ready hB0 inv.size (i := n) hn (inv.tail n (Nat.le_refl _) hn)), fun i hi => ?_⟩
    have hleft := left_set hi
    obtain ⟨hun, o, ho, hall⟩ := mem_ready.1 hi
    have hlt : i < ops.size := (Array.getElem?_eq_some_iff.1 ho).1
    obtain ⟨vs, rfl, hv⟩ := inv.facts
    have hdeps : ∀ j, j < n → waits ops i j = true → φ j (vs j) w := by
      intro j hjn hw
      obtain ⟨o', ho', e, he, hb, hon⟩ := waits_spec hw
      have : o' = o := Option.some.inj (ho'.symm.trans ho)
      subst this
      have h3 := hall e he hb
      rw [hon] at h3
      exact hv j hjn h3
    rcases Nat.lt_trichotomy i n with hin | hin | hin
    · have hst := hop i o hin ho vs w inv.above hdeps
      have hd0 : dstOf ops i = o.dst := by simp [dstOf, ho]
      have hnext : ∀ u w', R w w' → φ i u w' → wpAny P .any ops Q fuel (listed.setIfInBounds i true) ((fill ops vs n a0).put o.dst u) w' := by
        intro u w' hR hu
        refine ih _ _ _ ⟨by simp [inv.size], fun j oj hoj hlj e he hb => ?_, fun t ht ht' => by rw [getD_set_ne true (by omega)]; exact inv.tail t ht ht', htr _ _ _ inv.above hR, ⟨fun j => if j = i then u else vs j, ?_, fun j hjn hlj => ?_⟩⟩ (by omega)
        · by_cases hij : i = j
          · subst hij
            have : oj = o := Option.some.inj (hoj.symm.trans ho)
            subst this
            exact getD_set_true (hall e he hb)
          · rw [getD_set_ne false hij] at hlj
            exact getD_set_true (inv.closed j oj hoj hlj e he hb)
        · rw [← hd0]
          exact fill_set vs a0 i u n (fun j hj hne => hdist' i j hin hj hne) hin
        · by_cases hij : j = i
          · subst hij; simpa using hu
          · simp only [hij, if_false]
            rw [getD_set_ne false (Ne.symm hij)] at hlj
            exact hφ j _ _ _ hR (hv j hjn hlj)
      unfold wpOp
      rw [ho]
      show if Region.wanted o (yielded ops (fill ops vs n a0).tmps) = true then _ else _
      unfold StepOf at hst
      split
      · rename_i hw
        rw [if_pos hw] at hst
        exact .inl (hst.wp fun v w' ⟨h1, h2⟩ => hnext v w' h1 h2)
      · rename_i hw
        rw [if_neg hw] at hst
        exact hnext undef w (hrf w) hst
    · subst hin
      have hg : o.guard = none := by
        rw [ho] at hgd
        simpa using hgd
      have hw : Region.wanted o (yielded ops (fill ops vs i a0).tmps) = true := by simp [Region.wanted, hg]
      unfold wpOp
      rw [ho]
      show if Region.wanted o (yielded ops (fill ops vs i a0).tmps) = true then _ else _
      rw [if_pos hw]
      exact .inl ((hpan o ho vs w inv.above hdeps).wp fun c w' h => h _ rfl)
    · exfalso
      have h1 := List.all_eq_true.1 hc i (List.mem_range.2 hlt)
      simp only [Bool.or_eq_true, decide_eq_true_eq] at h1
      rcases h1 with h1 | h1
      · omega
      · obtain ⟨j, hj, hj2⟩ := List.any_eq_true.1 h1
        simp only [Bool.and_eq_true, decide_eq_true_eq] at hj2
        have hjt := List.mem_range.1 hj
        obtain ⟨o', ho', e, he, hb, hon⟩ := waits_spec hj2.2
        have : o' = o := Option.some.inj (ho'.symm.trans ho)
        subst this
        have h2 := hall e he hb
        rw [hon, bothD (inv.tail j hj2.1 (by omega))] at h2
        cases h2

/-- The plan of what comes before a panic. -/
def PlanP (P : Program) (ops : Array Oper) (R : World → World → Prop) (w0 : World) (n : Nat) (F : (Nat → Value) → Act) (C : Act → World → Prop) : List Oper → Nat → List (Nat × (Value → World → Prop)) → Prop
  | [], _, φs => ∀ vs w, R w0 w → (∀ (k j : Nat) (φ : Value → World → Prop), φs[k]? = some (j, φ) → waits ops n j = true → φ (vs j) w) → C (F vs) w
  | o :: rest, i, φs => ∃ φ : Value → World → Prop, (∀ v x y, R x y → φ v x → φ v y) ∧
      (∀ vs w, R w0 w → (∀ (k j : Nat) (φ' : Value → World → Prop), φs[k]? = some (j, φ') → waits ops i j = true → φ' (vs j) w) → StepOf P ops R φ o (F vs) w) ∧ PlanP P ops R w0 n F C rest (i + 1) ((i, φ) :: φs)

theorem PlanP.spec {R : World → World → Prop} {w0 : World} {n : Nat} {F : (Nat → Value) → Act} {C : Act → World → Prop} : ∀ (l : List Oper) (i : Nat) (φs : List (Nat × (Value → World → Prop))) (pre : List (Value → World → Prop)), PlanP P ops R w0 n F C l i φs → pre.length = i →
    (∀ (j : Nat) (φ : Value → World → Prop), (j, φ) ∈ φs → pre[j]? = some φ) → (∀ (φ : Value → World → Prop), φ ∈ pre → ∀ v x y, R x y → φ v x → φ v y) →
    ∃ full : List (Value → World → Prop), full.length = i + l.length ∧ (∀ (j : Nat) (φ : Value → World → Prop), pre[j]? = some φ → full[j]? = some φ) ∧ (∀ (φ : Value → World → Prop), φ ∈ full → ∀ v x y, R x y → φ v x → φ v y) ∧
      (∀ (k : Nat) (o : Oper) (φ : Value → World → Prop), l[k]? = some o → full[i + k]? = some φ → ∀ vs w, R w0 w → (∀ (j : Nat) (φ' : Value → World → Prop), j < i + k → full[j]? = some φ' → waits ops (i + k) j = true → φ' (vs j) w) → StepOf P ops R φ o (F vs) w) ∧
      (∀ vs w, R w0 w → (∀ (j : Nat) (φ : Value → World → Prop), full[j]? = some φ → waits ops n j = true → φ (vs j) w) → C (F vs) w)
  | [], i, φs, pre, h, hl, hm, hst => ⟨pre, by simpa using hl, fun _ _ h => h, hst, fun k o φ hk => by simp at hk, fun vs w hR hF => h vs w hR fun k j φ hk hw => hF j φ (hm j φ (List.mem_of_getElem? hk)) hw⟩
  | o :: rest, i, φs, pre, h, hl, hm, hst => by
    obtain ⟨φ, h1, h2, h3⟩ := h
    obtain ⟨full, f1, f2, f3, f4, f5⟩ := PlanP.spec rest (i + 1) ((i, φ) :: φs) (pre ++ [φ]) h3 (by simp [hl]) (fun j φ' hj => by
      rcases List.mem_cons.1 hj with hj | hj
      · simp only [Prod.mk.injEq] at hj
        obtain ⟨rfl, rfl⟩ := hj
        rw [List.getElem?_append_right (by omega)]; simp [hl]
      · have := hm j φ' hj
        have hjl : j < pre.length := (List.getElem?_eq_some_iff.1 this).1
        rw [List.getElem?_append_left hjl]; exact this) (fun φ' hm => by
      rcases List.mem_append.1 hm with hm | hm
      · exact hst φ' hm
      · rw [List.mem_singleton.1 hm]; exact h1)
    refine ⟨full, by simp only [List.length_cons]; omega, fun j φ' hj => f2 j φ' (by
      have : j < pre.length := (List.getElem?_eq_some_iff.1 hj).1
      rw [List.getElem?_append_left this]; exact hj), f3, fun k o' φ' hk hf => ?_, f5⟩
    cases k with
    | zero =>
      simp at hk
      subst hk
      have hφ : full[i]? = some φ := f2 i φ (by rw [List.getElem?_append_right (by omega)]; simp [hl])
      rw [Nat.add_zero, hφ] at hf
      obtain rfl := Option.some.inj hf
      intro vs w hR hF
      refine h2 vs w hR fun k j φ' hk hw => ?_
      have hj := hm j φ' (List.mem_of_getElem? hk)
      have hjl : j < pre.length := (List.getElem?_eq_some_iff.1 hj).1
      exact hF j φ' (by omega) (f2 j φ' (by rw [List.getElem?_append_left hjl]; exact hj)) hw
    | succ k =>
      have := f4 k o' φ' (by simpa using hk) (by rw [show i + 1 + k = i + (k + 1) by omega]; exact hf)
      rw [show i + 1 + k = i + (k + 1) by omega] at this
      exact this

theorem defers_put (a : Act) (d : Option Tmp) (v : Value) : (a.put d v).defers = a.defers := by cases d <;> rfl
theorem defers_fill (vs : Nat → Value) (a : Act) : ∀ n, (fill ops vs n a).defers = a.defers
  | 0 => rfl
  | n + 1 => by rw [fill, defers_put, defers_fill vs a n]

/-- What is asked of the operation that panics. -/
def CallPn (P : Program) (l : List Oper) (Q : Exit → Act → World → Prop) (n : Nat) (ds : List Deferred) (A : Act) (x : World) : Prop :=
  ∀ o, l[n]? = some o → ∀ K : List PanicEntry → World → Prop, (∀ c x', (∀ A : Act, A.defers = ds → Q (.panic c) A x') → K c x') → givesPan P o A x K
theorem wp_region_pan {id : Nat} {a : Act} {w : World} {l : List Oper} (n : Nat) (R : World → World → Prop) (hm : P.follows .mixedOrders = true) (hB : planP l.toArray n a.tmps.size = true)
    (hrf : ∀ x, R x x) (htr : ∀ x y z, R x y → R y z → R x z) (h : PlanP P l.toArray R w.drew n (fun vs => fill l.toArray vs n a) (CallPn P l Q n a.defers) (l.take n) 0 []) : (Code.region id l.toArray true).wp P Q a w := by
  obtain ⟨full, f1, f2, f3, f4, f5⟩ := PlanP.spec _ _ _ [] h rfl (fun j φ hm => by cases hm) (fun φ hm => by cases hm)
  have hn : n < l.length := by
    simp only [planP, Bool.and_eq_true, decide_eq_true_eq] at hB
    simpa using hB.1.1.1.1.1
  have hlen : full.length = n := by rw [f1]; simp; omega
  refine wp_region_any hm (inv_pan (R := R) (w0 := w.drew) (a0 := a) (n := n) (φ := fun i => full.getD i (fun _ _ => True)) htr hrf (fun i v x y hR hp => ?_) hB (fun i o hi ho vs x hR hF => ?_) (fun o ho vs x hR hF => ?_) _ _ _ _ ⟨by simp, fun j oj _ hl => (by rw [repD] at hl; cases hl), fun t _ ht => inD (by simpa using ht) (repD _ _), hrf _, ⟨fun j => match dstOf l.toArray j with | some d => a.tmps.getD d undef | none => undef, (fill_self a n).symm, fun j _ hj => (by rw [repD] at hj; cases hj)⟩⟩ ?_)
  · by_cases hi : i < full.length
    · have he : full.getD i (fun _ _ => True) = full[i] := by simp [hi]
      simp only [he] at hp ⊢
      exact f3 _ (List.getElem_mem hi) v x y hR hp
    · have he : full.getD i (fun _ _ => True) = fun _ _ => True := by rw [List.getD_eq_getElem?_getD, List.getElem?_eq_none (by omega)]; rfl
      simp only [he]
  · have he : full[0 + i]? = some (full.getD i (fun _ _ => True)) := by rw [Nat.zero_add]; simp [show i < full.length by omega]
    refine f4 i o _ (by rw [List.getElem?_take]; rw [if_pos hi]; simpa using ho) he vs x hR fun j φ' hj hf hw => ?_
    have := hF j (by omega) (by rw [Nat.zero_add] at hw; exact hw)
    rwa [List.getD_eq_getElem?_getD, hf] at this
  · have hcall := f5 vs x hR fun j φ hj hw => by
      have := hF j (by rw [← hlen]; exact (List.getElem?_eq_some_iff.1 hj).1) hw
      rwa [List.getD_eq_getElem?_getD, hj] at this
    exact hcall o (by simpa using ho) _ (fun c x' h A hA => h A (by rw [hA, defers_fill]))
  · unfold left
    refine Nat.le_trans List.countP_le_length ?_
    simp
theorem PlanP.det {R : World → World → Prop} {w0 : World} {n : Nat} {F : (Nat → Value) → Act} {C : Act → World → Prop} {o : Oper} {rest : List Oper} {i : Nat} {φs : List (Nat × (Value → World → Prop))} (i' : Nat) (hi : i + 1 = i') (hrf : ∀ x, R x x)
    (h : ∃ c : Value, (∀ vs w, R w0 w → (∀ (k j : Nat) (φ' : Value → World → Prop), φs[k]? = some (j, φ') → waits ops i j = true → φ' (vs j) w) → ∀ K : Value → World → Prop, (∀ v w', R w w' → v = c → K v w') →
      if Region.wanted o (yielded ops (F vs).tmps) then gives P o (F vs) w K else K undef w) ∧ PlanP P ops R w0 n F C rest i' ((i, fun v _ => v = c) :: φs)) :
    PlanP P ops R w0 n F C (o :: rest) i φs := by
  subst hi
  obtain ⟨c, h1, h2⟩ := h
  exact ⟨fun v _ => v = c, fun _ _ _ _ h => h, fun vs w hR hF => StepOf.of (hrf w) (h1 vs w hR hF), h2⟩
theorem PlanP.rel {R : World → World → Prop} {w0 : World} {n : Nat} {F : (Nat → Value) → Act} {C : Act → World → Prop} {o : Oper} {rest : List Oper} {i : Nat} {φs : List (Nat × (Value → World → Prop))} (i' : Nat) (hi : i + 1 = i') (hrf : ∀ x, R x x) (φ : Value → World → Prop)
    (hφ : ∀ v x y, R x y → φ v x → φ v y) (h1 : ∀ vs w, R w0 w → (∀ (k j : Nat) (φ' : Value → World → Prop), φs[k]? = some (j, φ') → waits ops i j = true → φ' (vs j) w) → ∀ K : Value → World → Prop, (∀ v w', R w w' → φ v w' → K v w') →
      if Region.wanted o (yielded ops (F vs).tmps) then gives P o (F vs) w K else K undef w) (h2 : PlanP P ops R w0 n F C rest i' ((i, φ) :: φs)) :
    PlanP P ops R w0 n F C (o :: rest) i φs := by
  subst hi
  exact ⟨φ, hφ, fun vs w hR hF => StepOf.of (hrf w) (h1 vs w hR hF), h2⟩
theorem PlanP.nil {R : World → World → Prop} {w0 : World} {n : Nat} {F : (Nat → Value) → Act} {C : Act → World → Prop} {i : Nat} {φs : List (Nat × (Value → World → Prop))}
    (h : ∀ vs w, R w0 w → (∀ (k j : Nat) (φ : Value → World → Prop), φs[k]? = some (j, φ) → waits ops n j = true → φ (vs j) w) → C (F vs) w) : PlanP P ops R w0 n F C [] i φs := h
attribute [irreducible] PlanP
end
end Go.Proofs.YtkinnfejgpnddaaDoor
