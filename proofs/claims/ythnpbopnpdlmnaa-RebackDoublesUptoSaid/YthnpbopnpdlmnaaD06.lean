/- The reference of the parses: a sorted list. -/
import Derived.Test.YthnpbopnpdlmnaaD05
import Derived.Test.YthnpbopnpdlmnaaD01
import Derived.MapKept
import Derived.Test.YthnpbopnpdlmnaaD03
import Derived.Deep.MidRow
import Derived.Laws.MakeOwn
namespace Go.Proofs.Ythnpbopnpdlmnaa
open Go.RowKit
attribute [local go_sem] gives givesUpon

def cls (L c : Nat) (l : List Parse) : List Parse := (List.range' c (L + 1 - c)).reverse.flatMap fun e => l.filter fun q => q.1 == e
theorem cls_zero (L : Nat) (l : List Parse) : cls L 0 l = sortP L l := by unfold cls sortP; rw [List.range_eq_range']; rfl
theorem cls_top (L : Nat) (l : List Parse) : cls L (L + 1) l = [] := by unfold cls; simp
theorem cls_step {L c : Nat} (l : List Parse) (h : c ≤ L) : cls L c l = cls L (c + 1) l ++ l.filter fun q => q.1 == c := by
  unfold cls
  rw [show L + 1 - c = (L + 1 - (c + 1)) + 1 by omega, List.range'_succ, List.reverse_cons, List.flatMap_append]
  simp
theorem filter_step (l : List Parse) (f : Parse → Bool) {k : Nat} {q : Parse} (h : l[k]? = some q) : (l.take (k + 1)).filter f = (l.take k).filter f ++ if f q then [q] else [] := by
  rw [List.take_add_one, h, List.filter_append]
  cases hf : f q <;> simp [hf]
theorem cls_length {L c : Nat} (l : List Parse) : (cls L c l).length ≤ l.length := by
  unfold cls
  suffices h : ∀ es : List Nat, es.Nodup → (es.flatMap fun e => l.filter fun q => q.1 == e).length ≤ l.length from h _ (List.pairwise_reverse.2 ((List.nodup_range' (step := 1)).imp fun h e => h e.symm))
  intro es
  induction es generalizing l with
  | nil => intro _; simp
  | cons e es ih =>
    intro h
    rw [List.nodup_cons] at h
    rw [List.flatMap_cons, List.length_append]
    have h1 := ih (l.filter fun q => !(q.1 == e)) h.2
    have h2 : (es.flatMap fun e' => (l.filter fun q => !(q.1 == e)).filter fun q => q.1 == e') = es.flatMap fun e' => l.filter fun q => q.1 == e' := by
      refine flatMap_same fun e' he' => ?_
      rw [List.filter_filter]
      refine List.filter_congr fun q _ => ?_
      by_cases hq : q.1 = e'
      · have : e' ≠ e := fun e1 => h.1 (e1 ▸ he')
        simp [hq, this]
      · simp [hq]
    rw [h2] at h1
    have := filter_split (fun q : Parse => q.1 == e) l
    omega

def SortL (w : World) (L : Nat) (l : List Parse) (c : Nat) (more : List Parse) (a : Option Addr) (n cc : Nat) (wr : World) : Prop :=
  n = (cls L c l ++ more).length ∧ OwnP wr w.heap.size (.slice a n cc) (cls L c l ++ more) ∧ Below w.heap.size w wr
set_option maxRecDepth 100000 in
set_option maxHeartbeats 8000000 in
theorem rsorted_any (w : World) (p : Nat → Prop) (v : Value) (l : List Parse) (L : Nat) (h : PsQ p w v l) (hn : l.length ≤ 100000) (hL : L ≤ 1000000) :
    Calls Try.prog 73 #[v, .int .i64 L] w fun e w' => ∃ a c, e = .returned (.slice a (sortP L l).length c) ∧ Below w.heap.size w w' ∧ PsQ (w.heap.size ≤ ·) w' (.slice a (sortP L l).length c) (sortP L l) := by
  obtain ⟨va, vc, rfl⟩ := h.form
  obtain ⟨n, hnn⟩ : ∃ n, n = l.length := ⟨_, rfl⟩
  have hn2 : n ≤ 100000 := by omega
  have HNN := hid hnn
  rw [← hnn] at h ⊢
  have HP := hid h
  clear h hnn hn
  go_enter Try.func73, Try.ntmps73
  go_wp2_with fail
  go_loopw [5, 6] (fun v5 v6 wr => ∃ (c : Nat) (J : Int) (a : Option Addr) (m cc : Nat), v5 = .slice a m cc ∧ v6 = .int .i64 J ∧ J = (c : Int) - 1 ∧ c ≤ L + 1 ∧ Hid (SortL w L l c [] a m cc wr)) (fun _ v6 _ => (intOf v6 + 1).toNat)
  case atStart =>
    exact ⟨L + 1, (L : Int), none, 0, 0, rfl, rfl, by omega, Nat.le_refl _, by rw [cls_top]; rfl, by rw [cls_top]; exact OwnP.nil _ _, Below.refl _ _⟩
  case round =>
    obtain ⟨c, J, a, m, cc, rfl, rfl, hJ, hc, HS⟩ := hrel
    cases c with
    | zero =>
      have hJ0 : ¬ (0 : Int) ≤ J := by omega
      have d0 : decide ((0 : Int) ≤ J) = false := by simp; omega
      clear hJ
      go_wp2_with fail
      go_ret
      obtain ⟨h1, h2, h3⟩ := HS.out
      rw [List.append_nil, cls_zero] at h1 h2
      subst h1
      exact ⟨a, cc, rfl, h3, h2.psq.mono fun b _ hb => hb.1⟩
    | succ e =>
      obtain rfl : J = (e : Int) := by omega
      have hJ0 : (0 : Int) ≤ (e : Int) := by omega
      have he : e ≤ L := by omega
      have hwe : IntKind.i64.wrap ((e : Int) - 1) = (e : Int) - 1 := by rw [IntKind.wrap_i64]; omega
      clear hJ hc
      go_wp2_with fail
      go_loopw [5, 7] (fun v5 v7 wr => ∃ (k : Nat) (a : Option Addr) (m cc : Nat), v5 = .slice a m cc ∧ v7 = .int .i64 k ∧ k ≤ n ∧ Hid (SortL w L l (e + 1) ((l.take k).filter fun q => q.1 == e) a m cc wr)) (fun _ v7 _ => n - (intOf v7).toNat)
      case atStart =>
        exact ⟨0, a, m, cc, rfl, rfl, Nat.zero_le _, by show SortL _ _ _ _ _ _ _ _ _; simpa using HS.out⟩
      case round =>
        obtain ⟨k, a, m, cc, rfl, rfl, hk, HS⟩ := hrel
        by_cases hlt : k < n
        · have hltI : (k : Int) < (n : Int) := by omega
          have hkl : k < l.length := by have := HNN.out; omega
          obtain ⟨h1, h2, h3⟩ := HS.out
          have HB := hid h3
          have hsz := h3.size
          obtain ⟨b, c', q1, q2, sa', sc', hq, ev, hbl, -, hbr, p0, p1, hsq⟩ := (HP.out.of (q := p) (fun _ _ hr => hr.below h3 hr.lt) fun _ _ hp hr => ⟨hr.below h3 hr.lt, hp⟩ : PsQ p wr _ l).get hkl
          injection ev with e1 e2 e3
          subst e1; subst e3
          clear e2
          have HSQ := hid hsq
          have HST : Hid (∀ x : Bool, x = (q1 == e) → ((l.take (k + 1)).filter fun q => q.1 == e) = ((l.take k).filter fun q => q.1 == e) ++ if x then [(q1, q2)] else []) := fun x hx => by rw [filter_step l _ hq, hx]
          have HOWN := hid (⟨h1, h2⟩ : _ ∧ _)
          clear h1 h2 h3 hsq hq
          by_cases hqe : q1 = e
          · subst hqe
            go_wp2_with (at_builtin; refine wpList_append_ps rfl _ _ rfl w.heap.size _ (cls L (q1 + 1) l ++ ((l.take k).filter fun q => q.1 == q1)) [(q1, q2)] _ _ rfl ?c0 rfl (PsQ.lit (Row.new rfl) ?c1) ?c2 ?c3 ?_)
            case c0 => exact HOWN.out.2.below ((Below.refl _ _).alloc (Nat.le_refl _) _)
            case c1 => exact HSQ.out.below ((Below.refl _ _).alloc (Nat.le_refl _) _)
            case c2 =>
              have g1 := cls_length (L := L) (c := q1 + 1) l
              have g2 := List.length_filter_le (fun q : Parse => q.1 == q1) (l.take k)
              have := HNN.out
              rw [List.length_take] at g2
              simp only [List.length_append, List.length_cons, List.length_nil]
              omega
            case c3 => simp; omega
            intro a2 n2 c2 w3 hn2' hown hgrow hnw
            have HZ : Hid (SortL w L l (q1 + 1) ((l.take (k + 1)).filter fun q => q.1 == q1) a2 n2 c2 w3) := by
              have h5 := HST.out true (by simp)
              refine ⟨?_, ?_, (HB.out.alloc hsz _).grown hgrow (by simp; omega) fun g hg => (HOWN.out.2.lt g hg).1⟩
              · rw [h5, hn2']; simp
              · rw [h5, if_pos rfl]; first | exact hown | (rw [← List.append_assoc]; exact hown)
            clear hown hgrow hnw hn2' p0 p1
            go_wp2_with fail
            refine ⟨⟨k + 1, a2, n2, c2, rfl, by go_num, by omega, HZ.out⟩, ?_⟩
            simp [intOf] <;> omega
          · have d1 : ((q1 : Int) == (e : Int)) = false := by simp; omega
            have HZ : Hid (SortL w L l (e + 1) ((l.take (k + 1)).filter fun q => q.1 == e) a m cc wr) := by
              have h5 := HST.out false (by simp [hqe])
              exact ⟨by rw [h5]; simpa using HOWN.out.1, by rw [h5]; simpa using HOWN.out.2, HB.out⟩
            clear hqe
            go_wp2_with fail
            refine ⟨⟨k + 1, a, m, cc, rfl, by go_num, by omega, HZ.out⟩, ?_⟩
            simp [intOf] <;> omega
        · obtain rfl : k = n := by omega
          have hltI : ¬ (k : Int) < (k : Int) := by omega
          have HZ : Hid (SortL w L l e [] a m cc wr) := by
            have h5 := HS.out
            rw [HNN.out, List.take_length] at h5
            unfold SortL
            rw [List.append_nil, cls_step l he]
            exact h5
          go_wp2_with fail
          refine ⟨⟨e, (e : Int) - 1, a, m, cc, rfl, rfl, rfl, by omega, HZ.out⟩, ?_⟩
          simp [intOf] <;> omega

def RetP (w : World) (r : Option (List Parse)) (e : Ending) (w' : World) : Prop :=
  ∃ a n c, e = .returned (.tuple #[.slice a n c, .bool r.isSome]) ∧ Below w.heap.size w w' ∧ (∀ l, r = some l → n = l.length ∧ PsQ (w.heap.size ≤ ·) w' (.slice a n c) l) ∧ (r = none → a = none ∧ n = 0 ∧ c = 0)
set_option maxRecDepth 100000 in
set_option maxHeartbeats 8000000 in
theorem rdone_any (w : World) (p : Nat → Prop) (v : Value) (l l0 : List Parse) (s : ByteArray) (lines : Bool) (hl : l = nub l0) (h : PsQ p w v l) (hn : l.length ≤ 100000) (hL : s.size ≤ 1000000) :
    Calls Try.prog 57 #[.agg #[.string s, .bool lines], v] w (RetP w (fin s.size l0)) := by
  obtain ⟨va, vc, rfl⟩ := h.form
  have hB : Below w.heap.size w (w.alloc (.cells #[.string s, .bool lines] 75)) := (Below.refl _ _).alloc (Nat.le_refl _) _
  have HB := hid hB
  have HF : Hid (fin s.size l0 = if most < l.length then none else some (sortP s.size l)) := by show _ = _; unfold fin; rw [hl]
  have HS := hid (rsorted_any (w.alloc (.cells #[.string s, .bool lines] 75)) p _ l s.size (h.below hB) hn hL)
  obtain ⟨n, hnn⟩ : ∃ n, n = l.length := ⟨_, rfl⟩
  have HNN := hid hnn
  rw [← hnn] at HS HF ⊢
  clear h hnn hB
  go_enter Try.func57, Try.ntmps57
  by_cases hm : 4096 < n
  · have hmI : (4096 : Int) < (n : Int) := by omega
    have HM := hid hm
    clear hm
    go_wp2_with fail
    go_ret2
    rw [HF.out, if_pos (show most < n from HM.out)]
    exact ⟨none, 0, 0, rfl, HB.out, fun l h => (by cases h), fun _ => ⟨rfl, rfl, rfl⟩⟩
  · have hmI : ¬ (4096 : Int) < (n : Int) := by omega
    have HM := hid hm
    clear hm
    go_wp2_with fail
    refine HS.out.mono ?_
    rintro e w1 ⟨a, c, rfl, hb, hp⟩
    have HP := hid (⟨hb, hp⟩ : _ ∧ _)
    clear hb hp HS
    obtain ⟨m, hm⟩ : ∃ m, m = (sortP s.size l).length := ⟨_, rfl⟩
    rw [← hm] at HP ⊢
    have HMM := hid hm
    clear hm
    go_wp2_with fail
    go_ret2
    rw [HF.out, if_neg (show ¬ most < n from HM.out)]
    refine ⟨a, m, c, rfl, HB.out.trans (HP.out.1.mono (by simp)), fun l' hl' => ?_, fun h => (by cases h)⟩
    have := Option.some.inj hl'
    subst this
    exact ⟨HMM.out, HP.out.2.mono fun b _ hb => by simp at hb; omega⟩
end Go.Proofs.Ythnpbopnpdlmnaa

/- The reference of the parses: spans with another one, spans without those of groups. -/
namespace Go.Proofs.Ythnpbopnpdlmnaa
open Go.RowKit
attribute [local go_sem] gives givesUpon

theorem SpQ.get {w : World} {v : Value} {sp : Spans} (h : SpQ w v sp) {k : Nat} (hk : k < sp.length) : ∃ (b c : Nat) (x1 x2 : Int), sp[k]? = some (x1, x2) ∧ v = .slice (some ⟨b, 0, none⟩) sp.length c ∧ b < w.heap.size ∧ (∃ cs, Row w b cs 47) ∧ w.cell? ⟨b, k * 2, none⟩ = some (.int .i64 x1) ∧ w.cell? ⟨b, k * 2 + 1, none⟩ = some (.int .i64 x2) := by
  obtain ⟨a, c, e, h1 | ⟨b, more, h1, h2⟩⟩ := h
  · rw [h1] at hk; simp at hk
  · subst h1
    have hx := spc_get sp k sp[k] (by simp [hk])
    have hl := spc_length sp
    refine ⟨b, c, sp[k].1, sp[k].2, by simp [hk], e, h2.lt, ⟨_, h2⟩, ?_, ?_⟩
    · rw [h2.cell, List.getElem?_append_left (by omega), show k * 2 = 2 * k by omega, hx.1]
    · rw [h2.cell, List.getElem?_append_left (by omega), show k * 2 + 1 = 2 * k + 1 by omega, hx.2]
theorem SpQ.lit {w : World} {b : Nat} {x1 x2 : Int} (hr : Row w b [.int .i64 x1, .int .i64 x2] 47) : SpQ w (.slice (some ⟨b, 0, none⟩) 1 1) [(x1, x2)] := ⟨_, _, rfl, .inr ⟨b, [], rfl, by simpa [spc] using hr⟩⟩
theorem OwnSp.nil (w : World) (base : Nat) : OwnSp w base (.slice none 0 0) [] := ⟨fun _ => rfl, World.ownsRow_nil _ _ _ _⟩
theorem OwnSp.lt {w : World} {base : Nat} {v : Value} {l : Spans} (h : OwnSp w base v l) : ∀ g, v.ownBlock = some g → base ≤ g ∧ g < w.heap.size := World.ownsRow.lt h.2
theorem wpList_append_sp {ops : Array Oper} {rest : List Oper} {o : Oper} {a : Act} {w : World} {Q : Exit → Act → World → Prop} (hgd : o.guard = none) (s x : Operand)
    (ho : o.op = .call { callee := .builtin .append, args := #[s, x], argTypes := #[38, 38] }) (base : Nat) (v : Value) (l m : Spans) (u : Value) (hs : a.eval s = v) (hown : OwnSp w base v l) (hx : a.eval x = u) (hsrc : SpQ w u m) (hm : m ≠ [])
    (hsz : l.length + m.length ≤ 1000000) (hbase : base ≤ w.heap.size)
    (h : ∀ a' n' c' w', n' = (l ++ m).length → OwnSp w' base (.slice a' n' c') (l ++ m) → w.grownBy w' v.ownBlock → (∀ g, (Value.slice a' n' c').ownBlock = some g → v.ownBlock = some g ∨ w.heap.size ≤ g) → wpList Try.prog ops Q rest (a.put o.dst (.slice a' n' c')) w') : wpList Try.prog ops Q (o :: rest) a w := by
  obtain ⟨i0, hi, hz0, hz1, hz2⟩ := info_parts info_span
  obtain ⟨sa, c, rfl, h1 | ⟨b, more, rfl, hr⟩⟩ := hsrc
  · exact absurd h1 hm
  · refine wpList_append_row hgd s x 38 ho base 47 i0 (.agg #[.int .i64 0, .int .i64 0]) 2 16 Try.underlying38 hi hz0 hz1 hz2 rfl (by decide) v l.length (spc l) hs hown.2 ⟨b, 0, none⟩ m.length c (spc m) hx (spc_length m) ?_ (spc_one m) (by unfold maxLen; omega) (by omega) hbase (List.length_pos_iff.2 hm) fun a' c' w' g1 g2 g3 => ?_
    · intro j u hj
      rw [Addr.add_lit, Nat.zero_add, hr.cell j]
      exact List.getElem?_append_left (List.getElem?_eq_some_iff.1 hj).1 ▸ hj
    · exact h a' _ c' w' (List.length_append).symm (OwnSp.app hm g1 rfl) g2 g3

set_option maxRecDepth 100000 in
set_option maxHeartbeats 8000000 in
theorem rwith_any (w : World) (sv : Value) (sp : Spans) (g : Nat) (i k : Int) (hsp : SpQ w sv sp) (hl : sp.length ≤ 9) (hg : 1 ≤ g ∧ g ≤ 9) :
    Calls Try.prog 53 #[sv, .int .i64 g, .int .i64 i, .int .i64 k] w fun e w' => ∃ a c, e = .returned (.slice a sp.length c) ∧ Below w.heap.size w w' ∧ SpQ w' (.slice a sp.length c) (sp.set (g - 1) (i, k)) := by
  obtain ⟨sa, sc, rfl⟩ := hsp.form
  obtain ⟨n, hnn⟩ : ∃ n, n = sp.length := ⟨_, rfl⟩
  have hn9 : n ≤ 9 := by omega
  have HNN := hid hnn
  rw [← hnn] at hsp ⊢
  have HS := hid hsp
  have hwg : IntKind.i64.wrap ((g : Int) - 1) = (g : Int) - 1 := by rw [IntKind.wrap_i64]; omega
  clear hsp hl hnn
  go_enter Try.func53, Try.ntmps53
  go_wp2_with fail
  go_loopw [9, 10] (fun v9 v10 wr => ∃ (j : Nat) (a : Option Addr) (m c : Nat), v9 = .slice a m c ∧ v10 = .int .i64 j ∧ j ≤ n ∧ Hid (m = j ∧ OwnSp wr w.heap.size (.slice a m c) ((sp.set (g - 1) (i, k)).take j) ∧ Below w.heap.size w wr)) (fun _ v10 _ => n - (intOf v10).toNat)
  case atStart => exact ⟨0, none, 0, 0, rfl, rfl, Nat.zero_le _, rfl, OwnSp.nil _ _, Below.refl _ _⟩
  case round =>
    obtain ⟨j, a, m, c, rfl, rfl, hj, HX⟩ := hrel
    by_cases hlt : j < n
    · have hltI : (j : Int) < (n : Int) := by omega
      obtain ⟨h0, h1, h2⟩ := HX.out
      obtain ⟨b, cc, x1, x2, hq, ev, hb, -, p0, p1⟩ := (HS.out.of (fun _ _ hr => hr.below h2 hr.lt) : SpQ wr _ sp).get (k := j) (by have := HNN.out; omega)
      injection ev with e1 e2 e3
      subst e1; subst e3
      clear e2
      have HO := hid (⟨h0, h1, h2⟩ : _ ∧ _ ∧ _)
      have hsz := h2.size
      have HT : Hid (∀ y, (sp.set (g - 1) (i, k))[j]? = some y → (sp.set (g - 1) (i, k)).take (j + 1) = (sp.set (g - 1) (i, k)).take j ++ [y]) := fun y hy => by rw [List.take_add_one, hy]; rfl
      have HQ := hid hq
      clear h0 h1 h2 hq
      by_cases hjg : j = g - 1
      · have d1 : ((j : Int) == (g : Int) - 1) = true := by simp; omega
        have HJG := hid hjg
        clear hjg
        go_wp2_with (at_builtin; refine wpList_append_sp rfl _ _ rfl w.heap.size _ ((sp.set (g - 1) (i, k)).take j) [(i, k)] _ rfl ?c0 rfl (SpQ.lit (Row.new (by simp))) (by simp) ?c2 ?c3 ?_)
        case c0 => exact HO.out.2.1.below (((Below.refl _ _).alloc (Nat.le_refl _) _).alloc (by simp) _)
        case c2 => simp; omega
        case c3 => simp; omega
        intro a2 n2 c2 w3 hn2 hown hgrow hnw
        have HZ : Hid (n2 = j + 1 ∧ OwnSp w3 w.heap.size (.slice a2 n2 c2) ((sp.set (g - 1) (i, k)).take (j + 1)) ∧ Below w.heap.size w w3) := by
          have hy := HT.out (i, k) (by rw [HJG.out, List.getElem?_set_self (by have := HNN.out; have := HJG.out; omega)])
          refine ⟨?_, by rw [hy]; exact hown, ((HO.out.2.2.alloc hsz _).alloc (by simp; omega) _).grown hgrow (by simp; omega) fun g hg => (HO.out.2.1.lt g hg).1⟩
          have := HNN.out
          rw [hn2]; simp; omega
        clear hown hgrow hnw hn2 p0 p1
        go_wp2_with fail
        refine ⟨⟨j + 1, a2, n2, c2, rfl, by go_num, by omega, HZ.out⟩, ?_⟩
        simp [intOf] <;> omega
      · have d1 : ((j : Int) == (g : Int) - 1) = false := by simp; omega
        have HJG := hid hjg
        clear hjg
        go_wp2_with (at_builtin; refine wpList_append_sp rfl _ _ rfl w.heap.size _ ((sp.set (g - 1) (i, k)).take j) [(x1, x2)] _ rfl ?c0 rfl (SpQ.lit (Row.new (by simp))) (by simp) ?c2 ?c3 ?_)
        case c0 => exact HO.out.2.1.below (((Below.refl _ _).alloc (Nat.le_refl _) _).alloc (by simp) _)
        case c2 => simp; omega
        case c3 => simp; omega
        intro a2 n2 c2 w3 hn2 hown hgrow hnw
        have HZ : Hid (n2 = j + 1 ∧ OwnSp w3 w.heap.size (.slice a2 n2 c2) ((sp.set (g - 1) (i, k)).take (j + 1)) ∧ Below w.heap.size w w3) := by
          have hy := HT.out (x1, x2) (by rw [List.getElem?_set_ne (fun e => HJG.out e.symm), HQ.out])
          refine ⟨?_, by rw [hy]; exact hown, ((HO.out.2.2.alloc hsz _).alloc (by simp; omega) _).grown hgrow (by simp; omega) fun g hg => (HO.out.2.1.lt g hg).1⟩
          have := HNN.out
          rw [hn2]; simp; omega
        clear hown hgrow hnw hn2 p0 p1
        go_wp2_with fail
        refine ⟨⟨j + 1, a2, n2, c2, rfl, by go_num, by omega, HZ.out⟩, ?_⟩
        simp [intOf] <;> omega
    · obtain rfl : j = n := by omega
      have hltI : ¬ (j : Int) < (j : Int) := by omega
      go_wp2_with fail
      go_ret
      obtain ⟨rfl, h1, h2⟩ := HX.out
      rw [List.take_of_length_le (by rw [List.length_set]; exact Nat.le_of_eq HNN.out.symm)] at h1
      exact ⟨a, c, rfl, h2, h1.q⟩
end Go.Proofs.Ythnpbopnpdlmnaa

/- Maps with int keys: what a look-up gives, and what a store leaves. Nothing here speaks of the program. -/
namespace Go.Proofs.Ythnpbopnpdlmnaa
open Go.RowKit

def keyIs (k : Int) (e : MapEntry) : Bool := match e.key with | .int .i64 k' => k == k' | _ => false
def findE (k : Int) : List MapEntry → Option Value
  | [] => none
  | e :: es => if keyIs k e then some e.val else findE k es
def IMap (w : World) (M : Nat) (f : Int → Option Value) : Prop :=
  ∃ es clock, w.heap[M]? = some (.map es clock) ∧ (∀ e, e ∈ es.toList → ∃ k, e.key = .int .i64 k) ∧ ∀ k, f k = findE k es.toList

theorem IMap.lt {w : World} {M : Nat} {f : Int → Option Value} (h : IMap w M f) : M < w.heap.size := by
  obtain ⟨es, c, h1, _⟩ := h
  rcases Nat.lt_or_ge M w.heap.size with h2 | h2
  · exact h2
  · simp [Array.getElem?_eq_none h2] at h1
theorem IMap.of_block {w w' : World} {M : Nat} {f : Int → Option Value} (h : IMap w M f) (hb : w'.heap[M]? = w.heap[M]?) : IMap w' M f := by
  obtain ⟨es, c, h1, h2⟩ := h
  exact ⟨es, c, hb.trans h1, h2⟩
theorem IMap.below {n : Nat} {w w' : World} {M : Nat} {f : Int → Option Value} (h : IMap w M f) (hb : Below n w w') (hM : M < n) : IMap w' M f := h.of_block (hb.block M hM)
theorem IMap.alloc {w : World} {M : Nat} {f : Int → Option Value} (h : IMap w M f) (o : Obj) : IMap (w.alloc o) M f := h.of_block (Below.heap_alloc _ _ _ h.lt)
theorem IMap.drew {w : World} {M : Nat} {f : Int → Option Value} (h : IMap w M f) : IMap w.drew M f := h
theorem IMap.new {w : World} {M : Nat} (h : M = w.heap.size) : IMap (w.alloc (.map #[] 0)) M (fun _ => none) := by
  subst h
  exact ⟨#[], 0, by show (w.heap.push _)[w.heap.size]? = _; simp, by simp, fun k => rfl⟩
theorem IMap.other {w : World} {M B : Nat} {f : Int → Option Value} (h : IMap w M f) (hn : M ≠ B) (j : Nat) (v : Value) : IMap (w.setCell ⟨B, j, none⟩ v) M f := h.of_block (Below.heap_setCell _ _ _ _ hn)

theorem findNow_int (k : Int) : ∀ (es : List MapEntry) (i : Nat), (∀ e, e ∈ es → ∃ k, e.key = .int .i64 k) →
    ∃ r, Instr.findNow (.int .i64) (.int .i64 k) es i = some r ∧ r.map (·.2) = findE k es ∧ ∀ j v, r = some (j, v) → i ≤ j ∧ ∃ e, es[j - i]? = some e ∧ e.key = .int .i64 k ∧ e.val = v ∧ ∀ m, m < j - i → ∀ e', es[m]? = some e' → keyIs k e' = false
  | [], i, _ => ⟨none, rfl, rfl, fun _ _ h => by cases h⟩
  | e :: es, i, h => by
    obtain ⟨k', hk'⟩ := h e (by simp)
    obtain ⟨r, h1, h2, h3⟩ := findNow_int k es (i + 1) (fun e he => h e (by simp [he]))
    by_cases hkk : k = k'
    · subst hkk
      refine ⟨some (i, e.val), by simp [Instr.findNow, hk', Instr.sameNow], by simp [findE, keyIs, hk'], fun j v hj => ?_⟩
      simp only [Option.some.injEq, Prod.mk.injEq] at hj
      obtain ⟨rfl, rfl⟩ := hj
      exact ⟨Nat.le_refl _, e, by simp, hk', rfl, fun m hm => by omega⟩
    · have hb : (k == k') = false := by simpa using hkk
      refine ⟨r, by simp [Instr.findNow, hk', Instr.sameNow, hb, h1], by simp [findE, keyIs, hk', hb, h2], fun j v hj => ?_⟩
      obtain ⟨h4, e', h5, h6, h7, h8⟩ := h3 j v hj
      refine ⟨by omega, e', ?_, h6, h7, fun m hm e'' he'' => ?_⟩
      · rw [show j - i = (j - (i + 1)) + 1 by omega]; simpa using h5
      · cases m with
        | zero => simp at he''; subst he''; simp [keyIs, hk', hb]
        | succ m => exact h8 m (by omega) e'' (by simpa using he'')

section
variable {P : Program}
theorem IMap.run_lookup {w : World} {M : Nat} {f : Int → Option Value} (h : IMap w M f) (T K E : TypeId) (hT : P.underlying T = some (.map K E)) (hK : P.underlying K = some (.int .i64)) (z : Value) (hz : (zeroValue E).run P w = .ok z w) (k : Int) :
    (Instr.lookup T (.map (some M)) (.int .i64 k) false).run P w = .ok ((f k).getD z) w := by
  obtain ⟨es, c, h1, h2, h3⟩ := h
  obtain ⟨r, h4, h5, _⟩ := findNow_int k es.toList 0 h2
  have hck : (Instr.checkKey es.isEmpty 10000 K (.int .i64 k)).run P w = .ok () w := by
    unfold Instr.checkKey
    simp [run_underlying hK]
  have hfk : (Instr.findKey K (.int .i64 k) es.toList).run P w = .ok r w := by
    simp [Instr.findKey, run_underlying hK, h4]
  rw [h3 k, ← h5]
  cases r with
  | none => simp [Instr.lookup, run_underlying hT, MapKept.run_getObj_map h1, hck, hfk, hz, Result.andThen]
  | some p => simp [Instr.lookup, run_underlying hT, MapKept.run_getObj_map h1, hck, hfk, Result.andThen]

theorem findE_append (k : Int) (e : MapEntry) : ∀ es : List MapEntry, findE k (es ++ [e]) = match findE k es with | some v => some v | none => if keyIs k e then some e.val else none
  | [] => by simp [findE]
  | e' :: es => by
    simp only [List.cons_append, findE]
    split
    · rfl
    · exact findE_append k e es
theorem findE_modify (k k' : Int) (v : Value) (key : Value) (hkey : key = .int .i64 k) : ∀ (es : List MapEntry) (j : Nat), (∃ e, es[j]? = some e ∧ e.key = .int .i64 k) → (∀ m, m < j → ∀ e', es[m]? = some e' → keyIs k e' = false) →
    findE k' (es.modify j fun e => { e with key, val := v }) = if k' = k then some v else findE k' es
  | [], j, h, _ => by obtain ⟨e, h, _⟩ := h; simp at h
  | e :: es, 0, h, _ => by
    obtain ⟨e0, h0, h1⟩ := h
    simp at h0; subst h0
    simp only [List.modify_zero_cons, findE]
    have e1 : keyIs k' { e with key, val := v } = decide (k' = k) := by simp [keyIs, hkey]; rfl
    have e2 : keyIs k' e = decide (k' = k) := by simp [keyIs, h1]; rfl
    rw [e1, e2]
    by_cases hk : k' = k <;> simp [hk]
  | e :: es, j + 1, h, hm => by
    have ih := findE_modify k k' v key hkey es j (by simpa using h) (fun m hmj e' he' => hm (m + 1) (by omega) e' (by simpa using he'))
    have h0 := hm 0 (by omega) e rfl
    simp only [List.modify_succ_cons, findE]
    rw [ih]
    by_cases hk : k' = k
    · subst hk; simp [h0]
    · simp [hk]

theorem IMap.run_update {w : World} {M : Nat} {f : Int → Option Value} (h : IMap w M f) (T K E : TypeId) (hT : P.underlying T = some (.map K E)) (hK : P.underlying K = some (.int .i64)) (k : Int) (v : Value) :
    ∃ w', (Instr.mapUpdate T (.map (some M)) (.int .i64 k) v).run P w = .ok () w' ∧ IMap w' M (fun x => if x = k then some v else f x) ∧ But [M] w w' := by
  have hlt := h.lt
  obtain ⟨es, c, h1, h2, h3⟩ := h
  obtain ⟨r, h4, h5, h6⟩ := findNow_int k es.toList 0 h2
  have hck : (Instr.checkKey false 10000 K (.int .i64 k)).run P w = .ok () w := by
    unfold Instr.checkKey
    simp [run_underlying hK]
  have hfk : (Instr.findKey K (.int .i64 k) es.toList).run P w = .ok r w := by
    simp [Instr.findKey, run_underlying hK, h4]
  have hbut : ∀ o : Obj, But [M] w { w with heap := w.heap.setIfInBounds M o } := fun o => ⟨rfl, rfl, rfl, by simp, fun i hi hn => by
    have : M ≠ i := by simpa using Ne.symm (by simpa using hn)
    simp [this]⟩
  cases r with
  | none =>
    refine ⟨{ w with heap := w.heap.setIfInBounds M (.map (es.push { key := .int .i64 k, val := v, born := c }) (c + 1)) }, by simp [Instr.mapUpdate, run_underlying hT, MapKept.run_getObj_map h1, hck, hfk, MapKept.run_setObj_map _ h1, Result.andThen], ⟨es.push { key := .int .i64 k, val := v, born := c }, c + 1, by simp [hlt], ?_, ?_⟩, hbut _⟩
    · intro e he
      simp at he
      rcases he with he | he
      · exact h2 e (by simpa using he)
      · subst he; exact ⟨k, rfl⟩
    · intro x
      simp only [Array.toList_push, findE_append]
      have h7 := h3 k
      rw [← h5] at h7
      by_cases hx : x = k
      · subst hx
        rw [← h3 x, h7]
        simp [keyIs]
      · rw [← h3 x]
        have : keyIs x { key := .int .i64 k, val := v, born := c } = false := by simp [keyIs, hx]
        rw [this]
        cases f x <;> simp [hx]
  | some p =>
    obtain ⟨j, v0⟩ := p
    obtain ⟨_, e, h7, h8, h9, h10⟩ := h6 j v0 rfl
    simp only [Nat.sub_zero] at h7 h10
    have hstay : (Instr.keyThatStays (((es[j]?).map (·.key)).getD (.int .i64 k)) (.int .i64 k)).run P w = .ok (.int .i64 k) w := by
      have : es[j]? = some e := by simpa using h7
      simp [this, h8, Instr.keyThatStays, Instr.sameBits]
    refine ⟨{ w with heap := w.heap.setIfInBounds M (.map (es.modify j fun e => { e with key := .int .i64 k, val := v }) c) }, by simp only [Instr.mapUpdate, Sem.run_bind, run_underlying hT, MapKept.run_getObj_map h1, hck, hfk, Result.andThen_ok, hstay, MapKept.run_setObj_map _ h1], ⟨es.modify j fun e => { e with key := .int .i64 k, val := v }, c, by simp [hlt], ?_, ?_⟩, hbut _⟩
    · intro e' he'
      obtain ⟨m, hm⟩ := List.mem_iff_getElem?.1 he'
      rw [Array.getElem?_toList, Array.getElem?_modify] at hm
      by_cases hjm : j = m
      · subst hjm
        rw [if_pos rfl] at hm
        obtain ⟨e0, _, rfl⟩ := Option.map_eq_some_iff.1 hm
        exact ⟨k, rfl⟩
      · rw [if_neg hjm] at hm
        exact h2 e' (List.mem_iff_getElem?.2 ⟨m, by simpa using hm⟩)
    · intro x
      rw [Array.toList_modify, findE_modify k x v _ rfl _ _ ⟨e, h7, h8⟩ h10]
      by_cases hx : x = k
      · simp [hx]
      · simp [hx, h3 x]

theorem wpList_update_imap {ops : Array Oper} {rest : List Oper} {o : Oper} {a : Act} {w : World} {Q : Exit → Act → World → Prop} (hgd : o.guard = none) (T : TypeId) (x y z : Operand) (ho : o.op = .mapUpdate T x y z) (M : Nat) (f : Int → Option Value) (h : IMap w M f)
    (hx : a.eval x = .map (some M)) (k : Int) (hy : a.eval y = .int .i64 k) (v : Value) (hz : a.eval z = v) (K E : TypeId) (hT : P.underlying T = some (.map K E)) (hK : P.underlying K = some (.int .i64))
    (hn : ∀ w', IMap w' M (fun x => if x = k then some v else f x) → But [M] w w' → wpList P ops Q rest (a.put o.dst undef) w') : wpList P ops Q (o :: rest) a w := by
  refine wpList_plain hgd fun K' hK' => ?_
  obtain ⟨w', h1, h2, h3⟩ := h.run_update T K E hT hK k v
  unfold Oper.wp
  simp [execOp, ho, hx, hy, hz, h1, Result.andThen]
  exact hK' _ _ (hn w' h2 h3)
end
end Go.Proofs.Ythnpbopnpdlmnaa

/- Trees that a call builds: what is read of a tree whatever the other blocks are; slices of trees of the call's own. -/
namespace Go.Proofs.Ythnpbopnpdlmnaa
open Go.RowKit

theorem flat9 : ∀ (L : List (Re × List Value)) (_ : ∀ e, e ∈ L → e.2.length = 9) (i : Nat) (e : Re × List Value) (j : Nat), L[i]? = some e → j < 9 → (L.flatMap Prod.snd)[i * 9 + j]? = e.2[j]?
  | [], _, i, e, j, h, _ => by simp at h
  | a :: L, hl, i, e, j, h, hj => by
    have ha := hl a (by simp)
    cases i with
    | zero =>
      simp at h
      subst h
      rw [List.flatMap_cons, Nat.zero_mul, Nat.zero_add, List.getElem?_append_left (by omega)]
    | succ i =>
      rw [List.flatMap_cons, List.getElem?_append_right (by omega)]
      have : (i + 1) * 9 + j - a.2.length = i * 9 + j := by omega
      rw [this]
      exact flat9 L (fun e he => hl e (by simp [he])) i e j (by simpa using h) hj

theorem AllIn_of (x : World) (g : Nat) : ∀ (L : List (Re × List Value)) (k : Nat), (∀ (i : Nat) (e : Re × List Value), L[i]? = some e → CellsAt x g (k + i * 9) e.2 ∧ e.1.In x e.2) → Re.AllIn x (L.map Prod.fst) (some ⟨g, 0, none⟩) k
  | [], k, _ => by simp [Re.AllIn]
  | e :: L, k, h => by
    rw [List.map_cons, Re.AllIn]
    have h0 := h 0 e rfl
    exact ⟨⟨g, 0, e.2, rfl, by simpa using h0.1, h0.2⟩, AllIn_of x g L (k + 9) fun i e' hi => by
      have h1 := h (i + 1) e' (by simpa using hi)
      exact ⟨by rw [show k + 9 + i * 9 = k + (i + 1) * 9 by omega]; exact h1.1, h1.2⟩⟩

theorem Re.cells_shape {w : World} {t : Re} {cs : List Value} (h : t.In w cs) : ∃ (p : Pay) (ad : Option Addr) (n c : Nat), cs = [.int .i64 p.op, .int .u64 p.set.a, .int .u64 p.set.b, .int .u64 p.set.c, .int .u64 p.set.d, .int .i64 p.lo, .int .i64 p.hi, .int .i64 p.gr, .slice ad n c] := by
  cases t with
  | mk p xs => rw [Re.In] at h; obtain ⟨ad, cap, rfl, _⟩ := h; exact ⟨p, ad, _, cap, rfl⟩
theorem Row.set9 {w : World} {B : Nat} {a b c d e f g i j : Value} {T : TypeId} (h : Row w B [a, b, c, d, e, f, g, i, j] T) (a' b' c' d' e' f' g' i' j' : Value) : Row (((((((((w.setCell ⟨B, 0, none⟩ a').setCell ⟨B, 1, none⟩ b').setCell ⟨B, 2, none⟩ c').setCell ⟨B, 3, none⟩ d').setCell ⟨B, 4, none⟩ e').setCell ⟨B, 5, none⟩ f').setCell ⟨B, 6, none⟩ g').setCell ⟨B, 7, none⟩ i').setCell ⟨B, 8, none⟩ j') B [a', b', c', d', e', f', g', i', j'] T :=
  ((((((((h.set 0 _).set 1 _).set 2 _).set 3 _).set 4 _).set 5 _).set 6 _).set 7 _).set 8 _
theorem below9 {n : Nat} {w x : World} {B : Nat} (h : Below n w x) (hB : n ≤ B) (a' b' c' d' e' f' g' i' j' : Value) : Below n w (((((((((x.setCell ⟨B, 0, none⟩ a').setCell ⟨B, 1, none⟩ b').setCell ⟨B, 2, none⟩ c').setCell ⟨B, 3, none⟩ d').setCell ⟨B, 4, none⟩ e').setCell ⟨B, 5, none⟩ f').setCell ⟨B, 6, none⟩ g').setCell ⟨B, 7, none⟩ i').setCell ⟨B, 8, none⟩ j') :=
  ((((((((h.setCell hB _).setCell hB _).setCell hB _).setCell hB _).setCell hB _).setCell hB _).setCell hB _).setCell hB _).setCell hB _
end Go.Proofs.Ythnpbopnpdlmnaa
