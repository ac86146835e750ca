/- The reference's store: drop, put. -/
import Derived.Test.YtnncbbfbnccnbaaRs2
import Derived.Test.YtnncbbfbnccnbaaLawBounds
namespace Go.Proofs.Ytnncbbfbnccnbaa
open Go.RowKit
attribute [local go_sem] gives givesUpon

theorem info_rf : (Try.prog.info? 74).map (fun i => (i.zero, i.size, i.bytes)) = some (some (.agg #[.string ⟨#[]⟩, .string ⟨#[]⟩, .int .i64 0]), 3, 40) := by kernel_rfl
theorem er_skip {L : List Fl} {k : Nat} (h : k < L.length) : (L.take (k + 1)).eraseIdx k = (L.take k).eraseIdx k := by
  rw [List.take_add_one, List.getElem?_eq_getElem h]
  rw [List.eraseIdx_append_of_length_le (by simp; omega)]
  have e : k - (L.take k).length = 0 := by rw [List.length_take]; omega
  have e2 : (L.take k).eraseIdx k = L.take k := List.eraseIdx_of_length_le (by rw [List.length_take]; omega)
  rw [e, e2]
  show L.take k ++ [] = _
  rw [List.append_nil]
theorem er_keep {L : List Fl} {k j : Nat} (h : k < L.length) (hj : k ≠ j) : (L.take (k + 1)).eraseIdx j = (L.take k).eraseIdx j ++ [L[k]] := by
  rw [List.take_add_one, List.getElem?_eq_getElem h]
  rcases Nat.lt_or_ge j k with h1 | h1
  · rw [List.eraseIdx_append_of_lt_length (by rw [List.length_take]; omega)]
    rfl
  · rw [List.eraseIdx_of_length_le (by simp; omega), List.eraseIdx_of_length_le (by rw [List.length_take]; omega)]
    rfl
def DrPost (base B : Nat) (s : RS) (L : List Fl) (w : World) (e : Ending) (w' : World) : Prop := ∃ v, e = .returned (.tuple #[]) ∧ RStep base B s { s with v := v, files := L } w w'
set_option maxRecDepth 100000 in
set_option maxHeartbeats 4000000 in
theorem rdrop_any (w : World) (B base : Nat) (s : RS) (j : Nat) (h : s.At w B base) (hl : s.files.length ≤ 1000000) (hj : j ≤ 1000000) (hbase : base ≤ w.heap.size) : Calls Try.prog 50 #[.pointer (some ⟨B, 0, none⟩), .int .i64 j] w (DrPost base B s (s.files.eraseIdx j) w) := by
  have HROW := hid h.row
  have HF := hid h.files
  have hB := h.row.lt
  have H := hid h
  obtain ⟨av, cv, hv⟩ := ownsRow_shape h.files
  clear h
  have HPP : Hid (∀ (v : Value) (w' : World), RStep base B s { s with v := v, files := s.files.eraseIdx j } w w' → DrPost base B s (s.files.eraseIdx j) w (.returned (.tuple #[])) w') := fun v w' h1 => ⟨v, rfl, h1⟩
  generalize DrPost base B s (s.files.eraseIdx j) w = PP at *
  obtain ⟨limit, v, files, peak, crash, count⟩ := s
  simp only at hv HF hl HROW HPP
  subst hv
  unfold RS.cells at HROW
  simp only at HROW
  go_enter Try.func50, Try.ntmps50
  go_wp2_with fail
  go_loopw [4, 5] (fun v i wr => ∃ (k m : Nat) (a : Option Addr) (c : Nat), k ≤ files.length ∧ m = ((files.take k).eraseIdx j).length ∧ v = .slice a m c ∧ i = .int .i64 k ∧ Hid (wr.ownsRow w.heap.size 74 3 (.slice a m c) m (((files.take k).eraseIdx j).flatMap rcells)) ∧ Hid (Below w.heap.size w wr)) (fun _ i _ => files.length - (intOf i).toNat)
  case atStart => exact ⟨0, 0, none, 0, by omega, by simp, rfl, rfl, (by simp only [List.take_zero, List.eraseIdx_nil, List.flatMap_nil]; exact World.ownsRow_nil _ _ _ _), Below.refl _ _⟩
  case round =>
    obtain ⟨k, m, a, c, hk, hm, rfl, rfl, HX, HBX⟩ := hrel
    have HM := hid hm
    have hml : m ≤ files.length := by rw [hm]; exact Nat.le_trans (List.length_eraseIdx_le _ _) (by rw [List.length_take]; omega)
    clear hm
    have hwx := HBX.out.size
    have hr0 := HROW.out.below HBX.out hB
    have q := Row.five hr0
    have HR0 := hid hr0
    have hz := hr0.lt
    clear hr0
    rcases Nat.lt_or_ge k files.length with hlt | hge
    · have hF0 := HF.out.kept HBX.out
      obtain ⟨g, cap, hvv, hg⟩ := hF0.form (by omega)
      injection hvv with e1 e2 e3
      subst e1 e3
      have HSK := hid (er_skip hlt)
      have HKP := hid (fun h => @er_keep files k j hlt h)
      have hkI : (k : Int) < (files.length : Int) := by omega
      obtain ⟨c0, c1, c2⟩ := hF0.cells k hlt
      clear hF0
      generalize files[k] = f at *
      obtain ⟨fn, ft, fs⟩ := f
      simp only at c0 c1 c2
      by_cases hkj : k = j
      · subst hkj
        go_wp2_with fail
        case roundEnd =>
          refine ⟨⟨k + 1, m, a, c, hlt, ?_, rfl, rfl, ?_, HBX.out⟩, ?_⟩
          · rw [HSK.out]; exact HM.out
          · rw [HSK.out]; exact HX.out
          · show files.length - ((k : Int) + 1).toNat < files.length - (k : Int).toNat
            omega
      · have hkj2 : ((k : Int) != (j : Int)) = true := by simp; omega
        have HE := hid (HKP.out hkj)
        clear hkj HKP HSK
        obtain ⟨i0, hi, hz0, hz1, hz2⟩ := info_parts info_rf
        go_wp2_with (at_builtin; refine wpList_append_row rfl _ _ 66 rfl w.heap.size 74 i0 (.agg #[.string ⟨#[]⟩, .string ⟨#[]⟩, .int .i64 0]) 3 40 Try.underlying66 hi hz0 hz1 hz2 rfl (by decide) _ m (((files.take k).eraseIdx j).flatMap rcells) rfl (HX.out.alloc _) ⟨wr.heap.size, 0, none⟩ 1 1 (rcells ⟨fn, ft, fs⟩) rfl rfl ?c1 ?c2 ?c3 ?c4 ?c5 (by decide) ?_)
        case c1 =>
          intro j u hj
          have h1 := Row.cell (Row.at wr (rcells ⟨fn, ft, fs⟩) 74) j
          rw [hj] at h1
          simpa [Addr.add_lit, rcells] using h1
        case c2 => exact fun u hu => by simp [rcells] at hu; rcases hu with rfl | rfl | rfl <;> rfl
        case c3 => unfold maxLen; omega
        case c4 => omega
        case c5 => (try simp); omega
        intro a2 c2 w3 hown hgrow hnw
        have HOWN := hid hown
        have hb3 : Below w.heap.size w w3 := (HBX.out.alloc (by simpa using hwx) _).trans (grown_below hgrow (fun t ht => (HX.out.lt t ht).1) (by simp; omega))
        have HB3 := hid hb3
        clear hown hgrow hnw hi hz0 hz1 hz2 hb3
        clear i0
        go_wp2_with fail
        case roundEnd =>
          refine ⟨⟨k + 1, m + 1, a2, c2, hlt, ?_, rfl, rfl, ?_, HB3.out⟩, ?_⟩
          · rw [HE.out, List.length_append, ← HM.out]; rfl
          · rw [HE.out, List.flatMap_append]
            refine hid ?_
            simpa using HOWN.out
          · show files.length - ((k : Int) + 1).toNat < files.length - (k : Int).toNat
            omega
    · obtain rfl : k = files.length := by omega
      have HX2 := hid HX.out
      have HM2 := hid HM.out
      rw [List.take_length] at HX2 HM2
      clear HX HM
      go_wp2_with fail
      all_goals go_end0
      refine HPP.out (.slice a m c) _ ?_
      refine H.out.fresh (b1 := w.heap.size) ((But.of_below HBX.out).setCell (.inl (by simp)) _) ?_ ?_ (Nat.le_refl _) hbase
      · exact HR0.out.set 1 _
      · have := ownsRow_setCell_below HX2.out (a := ⟨B, 1, none⟩) hB (.slice a m c)
        rw [show m = (files.eraseIdx j).length from HM2.out] at this ⊢
        exact this
theorem before_tri : ∀ a b : List UInt8, (bytesBefore a b = true ∧ bytesBefore b a = false ∧ (b == a) = false) ∨ (bytesBefore a b = false ∧ (bytesBefore b a = true ∨ (b == a) = true))
  | [], [] => .inr ⟨rfl, .inr rfl⟩
  | [], b :: s => .inl ⟨rfl, rfl, rfl⟩
  | a :: r, [] => .inr ⟨rfl, .inl rfl⟩
  | a :: r, b :: s => by
    by_cases h : a = b
    · subst h
      have e1 : bytesBefore (a :: r) (a :: s) = bytesBefore r s := by simp [bytesBefore]
      have e2 : bytesBefore (a :: s) (a :: r) = bytesBefore s r := by simp [bytesBefore]
      have e3 : ((a :: s) == (a :: r)) = (s == r) := by simp
      rw [e1, e2, e3]
      exact before_tri r s
    · have hn : ¬ b = a := fun e => h e.symm
      have h3 : ((b :: s) == (a :: r)) = false := by simp [hn]
      rcases Nat.lt_or_ge a.toNat b.toNat with h4 | h4
      · have h5 : ¬ b < a := by rw [UInt8.lt_iff_toNat_lt]; omega
        refine .inl ⟨?_, ?_, h3⟩
        · simp [bytesBefore, UInt8.lt_iff_toNat_lt, h4]
        · simp [bytesBefore, h5, hn]
      · have h5 : b.toNat < a.toNat := by
          rcases Nat.lt_or_ge b.toNat a.toNat with h6 | h6
          · exact h6
          · exact absurd (UInt8.toNat_inj.1 (by omega)) h
        have h6 : ¬ a < b := by rw [UInt8.lt_iff_toNat_lt]; omega
        refine .inr ⟨?_, .inl ?_⟩
        · simp [bytesBefore, h6, h]
        · simp [bytesBefore, UInt8.lt_iff_toNat_lt, h5]
theorem before_yes {a b : List UInt8} (h : bytesBefore a b = true) : bytesBefore b a = false ∧ (b == a) = false := by
  rcases before_tri a b with h1 | h1
  · exact h1.2
  · rw [h1.1] at h; cases h
theorem before_no {a b : List UInt8} (h : bytesBefore a b = false) : bytesBefore b a = true ∨ (b == a) = true := by
  rcases before_tri a b with h1 | h1
  · rw [h1.1] at h; cases h
  · exact h1.2
/-- One step of put. -/
def pstep (f : Fl) (st : Bool × List Fl) (x : Fl) : Bool × List Fl := if st.1 = false ∧ bytesBefore f.name x.name = true then (true, st.2 ++ [f, x]) else (st.1, st.2 ++ [x])
theorem pstep_added (f : Fl) : ∀ (L acc : List Fl), L.foldl (pstep f) (true, acc) = (true, acc ++ L)
  | [], acc => by simp
  | x :: L, acc => by
    rw [List.foldl_cons]
    have e : pstep f (true, acc) x = (true, acc ++ [x]) := by unfold pstep; simp
    rw [e, pstep_added f L]
    simp
theorem pstep_all (f : Fl) : ∀ (L acc : List Fl), (if (L.foldl (pstep f) (false, acc)).1 = true then (L.foldl (pstep f) (false, acc)).2 else (L.foldl (pstep f) (false, acc)).2 ++ [f]) = acc ++ ins f L
  | [], acc => by simp [ins]
  | x :: L, acc => by
    rw [List.foldl_cons]
    unfold ins
    have e0 : (Lit.string f.name).before (.string x.name) = bytesBefore f.name x.name := rfl
    rw [e0]
    cases hb : bytesBefore f.name x.name with
    | true =>
      have e : pstep f (false, acc) x = (true, acc ++ [f, x]) := by unfold pstep; simp [hb]
      rw [e, pstep_added]
      simp
    | false =>
      have e : pstep f (false, acc) x = (false, acc ++ [x]) := by unfold pstep; simp [hb]
      rw [e, pstep_all f L]
      simp
theorem pstep_len (f : Fl) : ∀ (L : List Fl) (st : Bool × List Fl), (L.foldl (pstep f) st).2.length ≤ st.2.length + 2 * L.length
  | [], st => by simp
  | x :: L, st => by
    rw [List.foldl_cons]
    have h := pstep_len f L (pstep f st x)
    have h2 : (pstep f st x).2.length ≤ st.2.length + 2 := by unfold pstep; split <;> simp
    rw [List.length_cons]; omega
theorem pstep_take (f : Fl) {L : List Fl} {k : Nat} (h : k < L.length) : (L.take (k + 1)).foldl (pstep f) (false, []) = pstep f ((L.take k).foldl (pstep f) (false, [])) L[k] := by
  rw [List.take_add_one, List.getElem?_eq_getElem h, List.foldl_append]
  rfl
set_option maxRecDepth 100000 in
set_option maxHeartbeats 4000000 in
theorem rput_any (w : World) (B base : Nat) (s : RS) (f : Fl) (h : s.At w B base) (hl : s.files.length ≤ 1000000) (hbase : base ≤ w.heap.size) : Calls Try.prog 48 #[.pointer (some ⟨B, 0, none⟩), .agg (rcells f).toArray] w (DrPost base B s (ins f s.files) w) := by
  have HROW := hid h.row
  have HF := hid h.files
  have hB := h.row.lt
  have H := hid h
  obtain ⟨av, cv, hv⟩ := ownsRow_shape h.files
  clear h
  have HPP : Hid (∀ (v : Value) (w' : World), RStep base B s { s with v := v, files := ins f s.files } w w' → DrPost base B s (ins f s.files) w (.returned (.tuple #[])) w') := fun v w' h1 => ⟨v, rfl, h1⟩
  generalize DrPost base B s (ins f s.files) w = PP at *
  obtain ⟨limit, v, files, peak, crash, count⟩ := s
  simp only at hv HF hl HROW HPP
  subst hv
  unfold RS.cells at HROW
  simp only at HROW
  have HPS := hid (fun k (h : k < files.length) => @pstep_take f files k h)
  have HPL := hid (fun k => pstep_len f (files.take k) (false, []))
  have HPA := hid (pstep_all f files [])
  generalize hps : pstep f = ps at *
  have HPD : Hid (∀ ad acc x, ps (ad, acc) x = if ad = false ∧ bytesBefore f.name x.name = true then (true, acc ++ [f, x]) else (ad, acc ++ [x])) := by intro ad acc x; rw [← hps]; rfl
  clear hps
  have HFF : Hid (f = f) := rfl
  obtain ⟨fn, ft, fs⟩ := f
  go_enter Try.func48, Try.ntmps48
  go_wp2_with fail
  have HB1 : Hid (Below w.heap.size w (w.alloc (.cells (rcells ⟨fn, ft, fs⟩).toArray 74))) := (Below.refl _ w).alloc (Nat.le_refl _) _
  have HW1 : Hid (Row (w.alloc (.cells (rcells ⟨fn, ft, fs⟩).toArray 74)) w.heap.size [.string ⟨fn.toArray⟩, .string ⟨ft.toArray⟩, .int .i64 fs] 74) := Row.at w [.string ⟨fn.toArray⟩, .string ⟨ft.toArray⟩, .int .i64 fs] 74
  have hsz1 : (w.alloc (.cells (rcells ⟨fn, ft, fs⟩).toArray 74)).heap.size = w.heap.size + 1 := by simp
  generalize w.alloc (.cells (rcells ⟨fn, ft, fs⟩).toArray 74) = w1 at *
  have HRB := hid (HROW.out.below HB1.out hB)
  have HFB := hid (fun (w' : World) (hb : Below (w.heap.size + 1) w1 w') => (ownsRow_heap HF.out fun g hg => (hb.block g (by have := (HF.out.lt g hg).2; omega)).trans (HB1.out.block g (HF.out.lt g hg).2) : OwnR w' base (.slice av files.length cv) files))
  have HRW := hid (fun (w' : World) (hb : Below (w.heap.size + 1) w1 w') => HRB.out.below hb (by omega))
  have HC := hid (fun (w' : World) (hb : Below (w.heap.size + 1) w1 w') => And.intro (Row.five (HRW.out w' hb)) (show w'.cell? ⟨w.heap.size, 0, none⟩ = some (.string ⟨fn.toArray⟩) ∧ w'.cell? ⟨w.heap.size, 1, none⟩ = some (.string ⟨ft.toArray⟩) ∧ w'.cell? ⟨w.heap.size, 2, none⟩ = some (.int .i64 fs) from ⟨(HW1.out.below hb (by omega)).cell 0, (HW1.out.below hb (by omega)).cell 1, (HW1.out.below hb (by omega)).cell 2⟩))
  go_loopw [4, 5, 6] (fun v d i wr => ∃ (k m : Nat) (a : Option Addr) (c : Nat) (ad : Bool) (acc : List Fl), k ≤ files.length ∧ v = .slice a m c ∧ d = .bool ad ∧ i = .int .i64 k ∧ Hid (m = acc.length) ∧ Hid ((files.take k).foldl ps (false, []) = (ad, acc)) ∧ Hid (wr.ownsRow (w.heap.size + 1) 74 3 (.slice a m c) m (acc.flatMap rcells)) ∧ Hid (Below (w.heap.size + 1) w1 wr)) (fun _ _ i _ => files.length - (intOf i).toNat)
  case atStart => exact ⟨0, 0, none, 0, false, [], by omega, rfl, rfl, rfl, rfl, rfl, World.ownsRow_nil _ _ _ _, Below.refl _ _⟩
  case round =>
    obtain ⟨k, m, a, c, ad, acc, hk, rfl, rfl, rfl, HM, HFO, HX, HBX⟩ := hrel
    have hml : m ≤ 2 * files.length := by
      have h1 := HPL.out k
      rw [HFO.out] at h1
      rw [HM.out]
      have h2 : (files.take k).length ≤ files.length := by rw [List.length_take]; omega
      simp only [List.length_nil] at h1
      omega
    have hwx := HBX.out.size
    have hwx1 : w.heap.size + 1 ≤ wr.heap.size := by omega
    have q := HC.out wr HBX.out
    rcases Nat.lt_or_ge k files.length with hlt | hge
    · obtain ⟨g, cap, hvv, hg⟩ := OwnR.form (HFB.out wr HBX.out) (by omega)
      injection hvv with e1 e2 e3
      subst e1 e3
      have htk := HPS.out k hlt
      rw [HFO.out] at htk
      have HTK := hid htk
      have hkI : (k : Int) < (files.length : Int) := by omega
      have HXC := hid (fun (w' : World) (hb : Below (w.heap.size + 1) w1 w') => OwnR.cells (HFB.out w' hb) k hlt)
      have x0 := HXC.out wr HBX.out
      clear htk
      generalize files[k] = x at *
      obtain ⟨xn, xt, xs⟩ := x
      simp only at x0
      have HXC2 : Hid (∀ w', Below (w.heap.size + 1) w1 w' → w'.cell? ⟨g, k * 3, none⟩ = some (.string ⟨xn.toArray⟩) ∧ w'.cell? ⟨g, k * 3 + 1, none⟩ = some (.string ⟨xt.toArray⟩) ∧ w'.cell? ⟨g, k * 3 + 2, none⟩ = some (.int .i64 xs)) := HXC.out
      clear HXC
      rcases Bool.eq_false_or_eq_true ad with rfl | rfl
      · go_wp2_with fail
        go_quiet (fail)
        have HBQ := hid (below_drewN HBX.out nq)
        have hbq : Below (w.heap.size + 1) w1 (wr.drewN nq) := HBQ.out
        have HXQ : Hid ((wr.drewN nq).ownsRow (w.heap.size + 1) 74 3 (.slice a m c) m (acc.flatMap rcells)) := ownsRow_heap HX.out fun _ _ => rfl
        have hwq : w.heap.size + 1 ≤ (wr.drewN nq).heap.size := hwx1
        have q2 := HC.out _ HBQ.out
        have y0 := HXC2.out _ HBQ.out
        clear q x0 hwx1 hbq
        generalize wr.drewN nq = wq at *
        obtain ⟨i0, hi, hz0, hz1, hz2⟩ := info_parts info_rf
        go_wp2_with (at_builtin; refine wpList_append_row rfl _ _ 66 rfl (w.heap.size + 1) 74 i0 (.agg #[.string ⟨#[]⟩, .string ⟨#[]⟩, .int .i64 0]) 3 40 Try.underlying66 hi hz0 hz1 hz2 rfl (by decide) _ (m) (acc.flatMap rcells) rfl (HXQ.out.alloc _) ⟨wq.heap.size, 0, none⟩ 1 1 (rcells ⟨xn, xt, xs⟩) rfl rfl ?c1 ?c2 ?c3 ?c4 ?c5 (by decide) ?_)
        case c1 =>
          intro j u hj
          have h1 := Row.cell (Row.at wq (rcells ⟨xn, xt, xs⟩) 74) j
          rw [hj] at h1
          simpa [Addr.add_lit, rcells] using h1
        case c2 => exact fun u hu => by simp [rcells] at hu; rcases hu with rfl | rfl | rfl <;> rfl
        case c3 => unfold maxLen; omega
        case c4 => omega
        case c5 => (try simp); omega
        intro a2 c2 w2 hown hgrow hnw
        have HOWN2 := hid hown
        have hb3 := (HBQ.out.alloc (by simpa using hwq) _).trans (grown_below hgrow (fun t ht => (HXQ.out.lt t ht).1) (by simp; omega))
        have HB2 := hid hb3
        have hw2 := hb3.size
        clear hown hgrow hnw hi hz0 hz1 hz2 hb3
        clear i0
        clear HBQ HXQ y0 q2
        go_wp2_with fail
        case roundEnd =>
          refine ⟨⟨k + 1, m + 1, a2, c2, true, acc ++ [⟨xn, xt, xs⟩], hlt, rfl, rfl, rfl, ?_, ?_, ?_, HB2.out⟩, ?_⟩
          · show m + 1 = _
            rw [List.length_append, ← HM.out]; rfl
          · show _ = _
            rw [HTK.out, HPD.out]
            rw [if_neg (by simp)]
          · refine hid ?_
            rw [List.flatMap_append]
            simpa using HOWN2.out
          · show files.length - ((k : Int) + 1).toNat < files.length - (k : Int).toNat
            omega
      · rcases Bool.eq_false_or_eq_true (bytesBefore fn xn) with hbb | hbb
        · have HBB := hid hbb
          obtain ⟨hb2, hb3⟩ := before_yes hbb
          rw [← bytesLess_before] at hb2
          clear hbb
          go_wp2_with fail
          go_quiet (fail)
          have HBQ := hid (below_drewN HBX.out nq)
          have HXQ : Hid ((wr.drewN nq).ownsRow (w.heap.size + 1) 74 3 (.slice a m c) m (acc.flatMap rcells)) := ownsRow_heap HX.out fun _ _ => rfl
          have hwq : w.heap.size + 1 ≤ (wr.drewN nq).heap.size := hwx1
          have q2 := HC.out _ HBQ.out
          clear q x0 hwx1
          generalize wr.drewN nq = wq at *
          obtain ⟨i0, hi, hz0, hz1, hz2⟩ := info_parts info_rf
          go_wp2_with (at_builtin; refine wpList_append_row rfl _ _ 66 rfl (w.heap.size + 1) 74 i0 (.agg #[.string ⟨#[]⟩, .string ⟨#[]⟩, .int .i64 0]) 3 40 Try.underlying66 hi hz0 hz1 hz2 rfl (by decide) _ (m) (acc.flatMap rcells) rfl (HXQ.out.alloc _) ⟨wq.heap.size, 0, none⟩ 1 1 (rcells ⟨fn, ft, fs⟩) rfl rfl ?c1 ?c2 ?c3 ?c4 ?c5 (by decide) ?_)
          case c1 =>
            intro j u hj
            have h1 := Row.cell (Row.at wq (rcells ⟨fn, ft, fs⟩) 74) j
            rw [hj] at h1
            simpa [Addr.add_lit, rcells] using h1
          case c2 => exact fun u hu => by simp [rcells] at hu; rcases hu with rfl | rfl | rfl <;> rfl
          case c3 => unfold maxLen; omega
          case c4 => omega
          case c5 => (try simp); omega
          intro a2 c2 w2 hown hgrow hnw
          have HOWN2 := hid hown
          have hb3 := (HBQ.out.alloc (by simpa using hwq) _).trans (grown_below hgrow (fun t ht => (HXQ.out.lt t ht).1) (by simp; omega))
          have HB2 := hid hb3
          have hw2 := hb3.size
          clear hown hgrow hnw hi hz0 hz1 hz2 hb3
          clear i0
          clear HBQ HXQ q2
          have hwq2 : w.heap.size + 1 ≤ w2.heap.size := by omega
          have q3 := HC.out _ HB2.out
          have y0 := HXC2.out _ HB2.out
          have HX3 : Hid (w2.ownsRow (w.heap.size + 1) 74 3 (.slice a2 (m + 1) c2) (m + 1) ((acc ++ [(⟨fn, ft, fs⟩ : Fl)]).flatMap rcells)) := by
            refine hid ?_
            rw [List.flatMap_append]
            simpa using HOWN2.out
          clear HOWN2 hw2 hwq hml
          have hml2 : m + 1 ≤ 2 * files.length + 1 := by
            have h1 := HPL.out k
            rw [HFO.out] at h1
            rw [HM.out]
            have h2 : (files.take k).length ≤ files.length := by rw [List.length_take]; omega
            simp only [List.length_nil] at h1
            omega
          obtain ⟨i0, hi, hz0, hz1, hz2⟩ := info_parts info_rf
          go_wp2_with (at_builtin; refine wpList_append_row rfl _ _ 66 rfl (w.heap.size + 1) 74 i0 (.agg #[.string ⟨#[]⟩, .string ⟨#[]⟩, .int .i64 0]) 3 40 Try.underlying66 hi hz0 hz1 hz2 rfl (by decide) _ (m + 1) ((acc ++ [(⟨fn, ft, fs⟩ : Fl)]).flatMap rcells) rfl (HX3.out.alloc _) ⟨w2.heap.size, 0, none⟩ 1 1 (rcells ⟨xn, xt, xs⟩) rfl rfl ?c1 ?c2 ?c3 ?c4 ?c5 (by decide) ?_)
          case c1 =>
            intro j u hj
            have h1 := Row.cell (Row.at w2 (rcells ⟨xn, xt, xs⟩) 74) j
            rw [hj] at h1
            simpa [Addr.add_lit, rcells] using h1
          case c2 => exact fun u hu => by simp [rcells] at hu; rcases hu with rfl | rfl | rfl <;> rfl
          case c3 => unfold maxLen; omega
          case c4 => omega
          case c5 => (try simp); omega
          intro a4 c4 w4 hown hgrow hnw
          have HOWN4 := hid hown
          have hb3 := (HB2.out.alloc (by simpa using hwq2) _).trans (grown_below hgrow (fun t ht => (HX3.out.lt t ht).1) (by simp; omega))
          have HB4 := hid hb3
          have hw4 := hb3.size
          clear hown hgrow hnw hi hz0 hz1 hz2 hb3
          clear i0
          clear HB2 HX3 y0 q3
          go_wp2_with fail
          case roundEnd =>
            refine ⟨⟨k + 1, m + 2, a4, c4, true, acc ++ [⟨fn, ft, fs⟩, ⟨xn, xt, xs⟩], hlt, rfl, rfl, rfl, ?_, ?_, ?_, HB4.out⟩, ?_⟩
            · show m + 2 = _
              rw [List.length_append, ← HM.out]; rfl
            · show _ = _
              rw [HTK.out, HPD.out, if_pos ⟨rfl, HBB.out⟩]
            · refine hid ?_
              have := HOWN4.out
              rw [show acc ++ [(⟨fn, ft, fs⟩ : Fl), ⟨xn, xt, xs⟩] = (acc ++ [⟨fn, ft, fs⟩]) ++ [⟨xn, xt, xs⟩] by simp, List.flatMap_append]
              simpa using this
            · show files.length - ((k : Int) + 1).toNat < files.length - (k : Int).toNat
              omega
        · have HBB := hid hbb
          have hb4 := before_no hbb
          rw [← bytesLess_before] at hb4
          clear hbb
          rcases hb4 with hb4 | hb4
          all_goals
            go_wp2_with fail
            go_quiet (fail)
            have HBQ := hid (below_drewN HBX.out nq)
            have hbq : Below (w.heap.size + 1) w1 (wr.drewN nq) := HBQ.out
            have HXQ : Hid ((wr.drewN nq).ownsRow (w.heap.size + 1) 74 3 (.slice a m c) m (acc.flatMap rcells)) := ownsRow_heap HX.out fun _ _ => rfl
            have hwq : w.heap.size + 1 ≤ (wr.drewN nq).heap.size := hwx1
            have q2 := HC.out _ HBQ.out
            have y0 := HXC2.out _ HBQ.out
            clear q x0 hwx1 hbq
            generalize wr.drewN nq = wq at *
            obtain ⟨i0, hi, hz0, hz1, hz2⟩ := info_parts info_rf
            go_wp2_with (at_builtin; refine wpList_append_row rfl _ _ 66 rfl (w.heap.size + 1) 74 i0 (.agg #[.string ⟨#[]⟩, .string ⟨#[]⟩, .int .i64 0]) 3 40 Try.underlying66 hi hz0 hz1 hz2 rfl (by decide) _ (m) (acc.flatMap rcells) rfl (HXQ.out.alloc _) ⟨wq.heap.size, 0, none⟩ 1 1 (rcells ⟨xn, xt, xs⟩) rfl rfl ?c1 ?c2 ?c3 ?c4 ?c5 (by decide) ?_)
            case c1 =>
              intro j u hj
              have h1 := Row.cell (Row.at wq (rcells ⟨xn, xt, xs⟩) 74) j
              rw [hj] at h1
              simpa [Addr.add_lit, rcells] using h1
            case c2 => exact fun u hu => by simp [rcells] at hu; rcases hu with rfl | rfl | rfl <;> rfl
            case c3 => unfold maxLen; omega
            case c4 => omega
            case c5 => (try simp); omega
            intro a2 c2 w2 hown hgrow hnw
            have HOWN2 := hid hown
            have hb3 := (HBQ.out.alloc (by simpa using hwq) _).trans (grown_below hgrow (fun t ht => (HXQ.out.lt t ht).1) (by simp; omega))
            have HB2 := hid hb3
            have hw2 := hb3.size
            clear hown hgrow hnw hi hz0 hz1 hz2 hb3
            clear i0
            clear HBQ HXQ y0 q2
            go_wp2_with fail
            case roundEnd =>
              refine ⟨⟨k + 1, m + 1, a2, c2, false, acc ++ [⟨xn, xt, xs⟩], hlt, rfl, rfl, rfl, ?_, ?_, ?_, HB2.out⟩, ?_⟩
              · show m + 1 = _
                rw [List.length_append, ← HM.out]; rfl
              · show _ = _
                rw [HTK.out, HPD.out]
                rw [if_neg (by rw [HBB.out]; simp)]
              · refine hid ?_
                rw [List.flatMap_append]
                simpa using HOWN2.out
              · show files.length - ((k : Int) + 1).toNat < files.length - (k : Int).toNat
                omega
    · obtain rfl : k = files.length := by omega
      have hfo := HFO.out
      have hpa := HPA.out
      rw [List.take_length] at hfo
      rw [hfo] at hpa
      simp only [List.nil_append] at hpa
      rcases Bool.eq_false_or_eq_true ad with rfl | rfl
      · rw [if_pos rfl] at hpa
        have HPE := hid hpa
        clear hpa hfo
        go_wp2_with fail
        all_goals go_end0
        refine HPP.out (.slice a m c) _ ?_
        refine H.out.fresh (b1 := w.heap.size) (((But.of_below HB1.out).later (But.of_below (show Below w1.heap.size w1 wr by rw [hsz1]; exact HBX.out) ) (fun _ h => .inl h)).setCell (.inl (by simp)) _) ?_ ?_ (Nat.le_refl _) hbase
        · exact (HRW.out wr HBX.out).set 1 _
        · have := ownsRow_setCell_below HX.out (a := ⟨B, 1, none⟩) (by show B < _; omega) (.slice a m c)
          rw [show m = (ins ⟨fn, ft, fs⟩ files).length by rw [← HPE.out]; exact HM.out, HPE.out] at this
          show OwnR _ _ (.slice a m c) (ins ⟨fn, ft, fs⟩ files)
          rw [show m = (ins ⟨fn, ft, fs⟩ files).length by rw [← HPE.out]; exact HM.out]
          exact ownsRow_base this (Nat.le_succ _)
      · rw [if_neg (by simp)] at hpa
        have HPE := hid hpa
        clear hpa hfo
        have q2 := HC.out wr HBX.out
        obtain ⟨i0, hi, hz0, hz1, hz2⟩ := info_parts info_rf
        go_wp2_with (at_builtin; refine wpList_append_row rfl _ _ 66 rfl (w.heap.size + 1) 74 i0 (.agg #[.string ⟨#[]⟩, .string ⟨#[]⟩, .int .i64 0]) 3 40 Try.underlying66 hi hz0 hz1 hz2 rfl (by decide) _ (m) (acc.flatMap rcells) rfl (HX.out.alloc _) ⟨wr.heap.size, 0, none⟩ 1 1 (rcells ⟨fn, ft, fs⟩) rfl rfl ?c1 ?c2 ?c3 ?c4 ?c5 (by decide) ?_)
        case c1 =>
          intro j u hj
          have h1 := Row.cell (Row.at wr (rcells ⟨fn, ft, fs⟩) 74) j
          rw [hj] at h1
          simpa [Addr.add_lit, rcells] using h1
        case c2 => exact fun u hu => by simp [rcells] at hu; rcases hu with rfl | rfl | rfl <;> rfl
        case c3 => unfold maxLen; omega
        case c4 => omega
        case c5 => (try simp); omega
        intro a2 c2 w2 hown hgrow hnw
        have HOWN2 := hid hown
        have hb3 := (HBX.out.alloc (by simpa using hwx1) _).trans (grown_below hgrow (fun t ht => (HX.out.lt t ht).1) (by simp; omega))
        have HB2 := hid hb3
        have hw2 := hb3.size
        clear hown hgrow hnw hi hz0 hz1 hz2 hb3
        clear i0
        have q3 := HC.out _ HB2.out
        have HRX := hid (HRW.out _ HB2.out)
        have hz2 := HRX.out.lt
        clear q q2
        go_wp2_with fail
        all_goals go_end0
        have hle : (ins ⟨fn, ft, fs⟩ files).length = m + 1 := by rw [← HPE.out, List.length_append, ← HM.out]; rfl
        refine HPP.out (.slice a2 (m + 1) c2) _ ?_
        refine H.out.fresh (b1 := w.heap.size) (((But.of_below HB1.out).later (But.of_below (show Below w1.heap.size w1 w2 by rw [hsz1]; exact HB2.out)) (fun _ h => .inl h)).setCell (.inl (by simp)) _) ?_ ?_ (Nat.le_refl _) hbase
        · exact HRX.out.set 1 _
        · have := ownsRow_setCell_below HOWN2.out (a := ⟨B, 1, none⟩) (by show B < _; omega) (.slice a2 (m + 1) c2)
          show World.ownsRow _ _ _ _ (.slice a2 (m + 1) c2) (ins ⟨fn, ft, fs⟩ files).length ((ins ⟨fn, ft, fs⟩ files).flatMap rcells)
          rw [hle, ← HPE.out, List.flatMap_append]
          refine ownsRow_base ?_ (Nat.le_succ _)
          simpa using this
end Go.Proofs.Ytnncbbfbnccnbaa
