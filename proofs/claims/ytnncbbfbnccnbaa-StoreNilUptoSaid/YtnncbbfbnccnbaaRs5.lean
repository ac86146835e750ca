/- The reference's store: Sync, Remove, Read, Append, Rename. Written by gen_rops.py. -/
import Derived.Test.YtnncbbfbnccnbaaRs4
namespace Go.Proofs.Ytnncbbfbnccnbaa
open Go.RowKit
attribute [local go_sem] gives givesUpon

theorem read_text (A : ByteArray) (t : List UInt8) (h : A.data.toList = t) (fk nk : Nat) (hk : fk ≤ t.length) : (A.extract fk ((fk : Int) + min (nk : Int) ((t.length : Int) - fk)).toNat).data.toList = (t.drop fk).take nk := by
  rw [ByteArray.data_extract, Array.toList_extract, h]
  simp only [List.extract]
  have e : ((fk : Int) + min (nk : Int) ((t.length : Int) - fk)).toNat - fk = min nk (t.length - fk) := by omega
  rw [e, List.take_eq_take_iff]
  simp
theorem total_set : ∀ (L : List Fl) (i : Nat) (f : Fl) (h : i < L.length), total (L.set i f) + L[i].text.length = total L + f.text.length
  | x :: L, 0, f, _ => by simp [total]; omega
  | x :: L, i + 1, f, h => by
    have := total_set L i f (Nat.lt_of_succ_lt_succ h)
    simp only [List.set_cons_succ, total, List.getElem_cons_succ]
    omega
theorem flat_set : ∀ (L : List Fl) (i j : Nat) (h : i < L.length) (_hj : j < 3) (u : Value) (f : Fl), rcells f = (rcells L[i]).set j u → (L.set i f).flatMap rcells = (L.flatMap rcells).set (i * 3 + j) u
  | x :: L, 0, j, _, hj, u, f, hf => by
    have hf' : rcells f = (rcells x).set j u := hf
    rw [List.set_cons_zero, List.flatMap_cons, List.flatMap_cons, Nat.zero_mul, Nat.zero_add, List.set_append_left _ _ (by exact hj), hf']
  | x :: L, i + 1, j, h, hj, u, f, hf => by
    rw [List.set_cons_succ, List.flatMap_cons, List.flatMap_cons, flat_set L i j (Nat.lt_of_succ_lt_succ h) hj u f hf, List.set_append_right _ _ (by show 3 ≤ _; omega)]
    have e : (i + 1) * 3 + j - (rcells x).length = i * 3 + j := by show _ - 3 = _; omega
    rw [e]
theorem flat_len (L : List Fl) : (L.flatMap rcells).length = L.length * 3 := by
  induction L with
  | nil => rfl
  | cons x L ih => rw [List.flatMap_cons, List.length_append, ih, List.length_cons]; show 3 + _ = _; omega
theorem OwnR.setAt {w : World} {base g n cap : Nat} {L : List Fl} (h : OwnR w base (.slice (some ⟨g, 0, none⟩) n cap) L) (hn : n = L.length) (i j : Nat) (hi : i < L.length) (hj : j < 3) (u : Value) (f : Fl) (hf : rcells f = (rcells L[i]).set j u) :
    OwnR (w.setCell ⟨g, i * 3 + j, none⟩ u) base (.slice (some ⟨g, 0, none⟩) n cap) (L.set i f) := by
  subst hn
  unfold OwnR
  rw [flat_set L i j hi hj u f hf, List.length_set]
  exact ownsRow_set h (i * 3 + j) (by rw [flat_len]; omega) u
set_option maxRecDepth 100000 in
set_option maxHeartbeats 8000000 in
theorem rSync_any (w : World) (B base : Nat) (s : RS) (nm : ByteArray) (h : s.At w B base) (hc : s.cnt) (hg : s.ab.good) (ha : s.ab.apart) (_hn : nm.size ≤ 1000000000) (_hbase : base ≤ w.heap.size) :
    Calls Try.prog 36 #[.pointer (some ⟨B, 0, none⟩), .string nm] w (RfPost base B s (s.ab.sync nm.data.toList) w) := by
  have hl : s.files.length ≤ 64 := hg.few
  have HO := hid (rbegin_any w B base s nm h hc (by omega))
  have e1 : s.ab.began = s.began.ab := s.ab_began.symm
  have HE1 := hid e1
  have HG := hid hg
  have HA := hid ha
  have HSM := hid s.began_same
  rcases s.opened_cases nm.data.toList with ⟨hcr, ho⟩ | ⟨hcr, hf, ho⟩ | ⟨hcr, i, hfi, ho⟩
  · have HE : Hid (s.ab.sync nm.data.toList = (19, s.began.ab)) := by
      show _ = _
      unfold Ab.sync; rw [if_pos (by rw [crash_ab]; exact hcr), e1]
    rw [ho] at HO
    clear h hc hg ha e1 HE1
    go_enter Try.func36, Try.ntmps36
    go_wp2_with fail
    refine HO.out.mono ?_
    rintro e w1 ⟨rfl, hs1⟩
    have HS := hid hs1
    clear hs1 HO
    go_wp2_with fail
    all_goals go_ret
    all_goals exact RfPost.mk HE.out HS.out
  · have HE : Hid (s.ab.sync nm.data.toList = (5, s.began.ab)) := by
      show _ = _
      unfold Ab.sync; rw [if_neg (by rw [crash_ab, hcr]; simp), hf, e1]
    rw [ho] at HO
    clear h hc hg ha e1 HE1
    go_enter Try.func36, Try.ntmps36
    go_wp2_with fail
    refine HO.out.mono ?_
    rintro e w1 ⟨rfl, hs1⟩
    have HS := hid hs1
    clear hs1 HO
    go_wp2_with fail
    all_goals go_ret
    all_goals exact RfPost.mk HE.out HS.out
  · have hfd := hfi.found
    have HE : Hid (s.ab.sync nm.data.toList = ((0 : Int), { s.ab.began with files := upd nm.data.toList (fun f => { f with sync := f.text.length }) s.ab.began.files })) := by
      show _ = _
      unfold Ab.sync
      rw [if_neg (by rw [crash_ab, hcr]; simp), hfd]
    rw [ho] at HO
    have HFI := hid hfi
    clear h hc hg ha e1 hfd ho
    have HPP : Hid (∀ (rr : Int) (s' : RS) (w' : World), s.ab.sync nm.data.toList = (rr, s'.ab) → RStep base B s s' w w' → RfPost base B s (s.ab.sync nm.data.toList) w (.returned (.int .i64 rr)) w') := fun rr s' w' h1 h2 => RfPost.mk h1 h2
    generalize RfPost base B s (s.ab.sync nm.data.toList) w = PP at *
    have hfe : s.began.files = s.files := HSM.out.1
    generalize s.began = s1 at *
    obtain ⟨limit, v, files, peak, crash, count⟩ := s1
    simp only at hfe hcr
    subst hcr
    subst hfe
    go_enter Try.func36, Try.ntmps36
    go_wp2_with fail
    refine HO.out.mono ?_
    rintro e w1 ⟨rfl, hs1⟩
    have HS := hid hs1
    clear hs1 HO
    obtain ⟨hi, hfx⟩ := HFI.out
    clear hfx
    obtain ⟨g, cap, hvv, hgl⟩ := OwnR.form HS.out.at'.files (show 0 < s.files.length by omega)
    simp only at hvv
    subst hvv
    have q := Row.five (show Row w1 B [.int .i64 limit, .slice (some ⟨g, 0, none⟩) s.files.length cap, .int .i64 peak, .bool false, .int .i64 count] _ from HS.out.at'.row)
    have hz := HS.out.at'.row.lt
    have c0 := OwnR.cells (show OwnR w1 base (.slice (some ⟨g, 0, none⟩) s.files.length cap) s.files from HS.out.at'.files) i hi
    have cf := fun o => OwnR.free (show OwnR w1 base (.slice (some ⟨g, 0, none⟩) s.files.length cap) s.files from HS.out.at'.files) o
    have htl : s.files[i].text.length ≤ 262144 := ok_text HG.out.ok (f := s.files[i]) (List.getElem_mem hi)
    have hiI : (i : Int) < (s.files.length : Int) := by omega
    have hi64 : (i : Int) ≤ 64 := by omega
    have HFK : Hid (s.files[i] = s.files[i]) := rfl
    generalize hfk : s.files[i] = f at htl c0
    have HFE := hid hfk
    clear hfk
    have hsz : (⟨f.text.toArray⟩ : ByteArray).size = f.text.length := by show f.text.toArray.size = _; rw [List.size_toArray]
    go_wp2_with fail
    have HC := hid (fun (x : World) (hx : Drawn w1.drew x) => And.intro (by obtain ⟨m, rfl⟩ := hx; exact q : ((x.cell? ⟨B, 0, none⟩ = some (.int .i64 limit) ∧ x.cell? ⟨B, 1, none⟩ = some (.slice (some ⟨g, 0, none⟩) s.files.length cap) ∧ x.cell? ⟨B, 2, none⟩ = some (.int .i64 peak) ∧ x.cell? ⟨B, 3, none⟩ = some (.bool false) ∧ x.cell? ⟨B, 4, none⟩ = some (.int .i64 count)) ∧ _)) (by obtain ⟨m, rfl⟩ := hx; exact c0 : x.cell? ⟨g, i * 3, none⟩ = some (.string ⟨f.name.toArray⟩) ∧ x.cell? ⟨g, i * 3 + 1, none⟩ = some (.string ⟨f.text.toArray⟩) ∧ x.cell? ⟨g, i * 3 + 2, none⟩ = some (.int .i64 f.sync)))
    refine wp_region_inv 16 (Drawn) (by kernel_rfl) (by kernel_rfl) (Drawn.refl) (fun _ _ _ => Drawn.trans) ?_
    simp only [fill, dstOf, Act.put, List.take_succ_cons, List.take_zero, List.getElem?_toArray, List.getElem?_cons_zero, List.getElem?_cons_succ, Option.bind_some, List.setIfInBounds_toArray, List.set_cons_zero, List.set_cons_succ]
    refine Plan.det 1 rfl (Drawn.refl) ?_
    apply Exists.intro
    refine ⟨fun vs x hR hF K hK => ?_, ?_⟩
    · clear hF
      go_simp
      exact hK _ _ (Drawn.refl _) rfl
    refine Plan.det 2 rfl (Drawn.refl) ?_
    apply Exists.intro
    refine ⟨fun vs x hR hF K hK => ?_, ?_⟩
    · have f0 := hF 0 _ _ rfl rfl; clear hF
      go_simp
      exact hK _ _ (Drawn.refl _) rfl
    refine Plan.det 3 rfl (Drawn.refl) ?_
    apply Exists.intro
    refine ⟨fun vs x hR hF K hK => ?_, ?_⟩
    · have f1 := hF 0 _ _ rfl rfl; clear hF
      go_simp
      exact hK _ _ (Drawn.refl _) rfl
    refine Plan.det 4 rfl (Drawn.refl) ?_
    apply Exists.intro
    refine ⟨fun vs x hR hF K hK => ?_, ?_⟩
    · have f2 := hF 0 _ _ rfl rfl; have hc := HC.out x hR; clear hF
      go_simp
      exact hK _ _ (Drawn.refl _) rfl
    refine Plan.det 5 rfl (Drawn.refl) ?_
    apply Exists.intro
    refine ⟨fun vs x hR hF K hK => ?_, ?_⟩
    · clear hF
      go_simp
      exact hK _ _ (Drawn.refl _) rfl
    refine Plan.det 6 rfl (Drawn.refl) ?_
    apply Exists.intro
    refine ⟨fun vs x hR hF K hK => ?_, ?_⟩
    · clear hF
      go_simp
      exact hK _ _ (Drawn.refl _) rfl
    refine Plan.det 7 rfl (Drawn.refl) ?_
    apply Exists.intro
    refine ⟨fun vs x hR hF K hK => ?_, ?_⟩
    · have f5 := hF 0 _ _ rfl rfl; clear hF
      go_simp
      exact hK _ _ (Drawn.refl _) rfl
    refine Plan.det 8 rfl (Drawn.refl) ?_
    apply Exists.intro
    refine ⟨fun vs x hR hF K hK => ?_, ?_⟩
    · have f6 := hF 0 _ _ rfl rfl; clear hF
      go_simp
      exact hK _ _ (Drawn.refl _) rfl
    refine Plan.det 9 rfl (Drawn.refl) ?_
    apply Exists.intro
    refine ⟨fun vs x hR hF K hK => ?_, ?_⟩
    · have f7 := hF 0 _ _ rfl rfl; have hc := HC.out x hR; clear hF
      go_simp
      exact hK _ _ (Drawn.refl _) rfl
    refine Plan.det 10 rfl (Drawn.refl) ?_
    apply Exists.intro
    refine ⟨fun vs x hR hF K hK => ?_, ?_⟩
    · clear hF
      go_simp
      exact hK _ _ (Drawn.refl _) rfl
    refine Plan.det 11 rfl (Drawn.refl) ?_
    apply Exists.intro
    refine ⟨fun vs x hR hF K hK => ?_, ?_⟩
    · have f8 := hF 1 _ _ rfl rfl; have f9 := hF 0 _ _ rfl rfl; clear hF
      go_simp
      exact hK _ _ (Drawn.refl _) rfl
    refine Plan.det 12 rfl (Drawn.refl) ?_
    apply Exists.intro
    refine ⟨fun vs x hR hF K hK => ?_, ?_⟩
    · have f10 := hF 0 _ _ rfl rfl; clear hF
      go_simp
      exact hK _ _ (Drawn.refl _) rfl
    refine Plan.det 13 rfl (Drawn.refl) ?_
    apply Exists.intro
    refine ⟨fun vs x hR hF K hK => ?_, ?_⟩
    · have f11 := hF 0 _ _ rfl rfl; have hc := HC.out x hR; clear hF
      go_simp
      exact hK _ _ (Drawn.refl _) rfl
    refine Plan.det 14 rfl (Drawn.refl) ?_
    apply Exists.intro
    refine ⟨fun vs x hR hF K hK => ?_, ?_⟩
    · have f12 := hF 0 _ _ rfl rfl; clear hF
      go_simp
      exact hK _ _ (Drawn.refl _) rfl
    refine Plan.det 15 rfl (Drawn.refl) ?_
    apply Exists.intro
    refine ⟨fun vs x hR hF K hK => ?_, ?_⟩
    · have f0 := hF 13 _ _ rfl rfl; have f1 := hF 12 _ _ rfl rfl; have f2 := hF 11 _ _ rfl rfl; have f3 := hF 10 _ _ rfl rfl; have f4 := hF 9 _ _ rfl rfl; have f5 := hF 8 _ _ rfl rfl; have f6 := hF 7 _ _ rfl rfl; have f7 := hF 6 _ _ rfl rfl; have f8 := hF 5 _ _ rfl rfl; have f9 := hF 4 _ _ rfl rfl; have f10 := hF 3 _ _ rfl rfl; have f11 := hF 2 _ _ rfl rfl; have f12 := hF 1 _ _ rfl rfl; have f13 := hF 0 _ _ rfl rfl; clear hF
      go_simp
      exact hK _ _ (Drawn.refl _) rfl
    refine Plan.det 16 rfl (Drawn.refl) ?_
    apply Exists.intro
    refine ⟨fun vs x hR hF K hK => ?_, ?_⟩
    · have f0 := hF 14 _ _ rfl rfl; have f1 := hF 13 _ _ rfl rfl; have f2 := hF 12 _ _ rfl rfl; have f3 := hF 11 _ _ rfl rfl; have f4 := hF 10 _ _ rfl rfl; have f5 := hF 9 _ _ rfl rfl; have f6 := hF 8 _ _ rfl rfl; have f7 := hF 7 _ _ rfl rfl; have f8 := hF 6 _ _ rfl rfl; have f9 := hF 5 _ _ rfl rfl; have f10 := hF 4 _ _ rfl rfl; have f11 := hF 3 _ _ rfl rfl; have f12 := hF 2 _ _ rfl rfl; have f13 := hF 1 _ _ rfl rfl; have f14 := hF 0 _ _ rfl rfl; clear hF
      go_simp
      exact hK _ _ (Drawn.refl _) rfl
    refine Plan.nil (fun vs x hR hF => ?_)
    have f0 := hF 15 _ _ rfl; have f1 := hF 14 _ _ rfl; have f2 := hF 13 _ _ rfl; have f3 := hF 12 _ _ rfl; have f4 := hF 11 _ _ rfl; have f5 := hF 10 _ _ rfl; have f6 := hF 9 _ _ rfl; have f7 := hF 8 _ _ rfl; have f8 := hF 7 _ _ rfl; have f9 := hF 6 _ _ rfl; have f10 := hF 5 _ _ rfl; have f11 := hF 4 _ _ rfl; have f12 := hF 3 _ _ rfl; have f13 := hF 2 _ _ rfl; have f14 := hF 1 _ _ rfl; have f15 := hF 0 _ _ rfl
    clear hF
    simp only [f0, f1, f2, f3, f4, f5, f6, f7, f8, f9, f10, f11, f12, f13, f14, f15]
    clear f0 f1 f2 f3 f4 f5 f6 f7 f8 f9 f10 f11 f12 f13 f14 f15
    simp only [List.drop_succ_cons, List.drop_zero]
    have HDX := hid (Drawn.trans ⟨1, rfl⟩ hR : Drawn w1 x)
    have HSX := hid (HS.out.more HDX.out.below (Nat.le_refl _))
    have cfx : ∀ o, x.frozen? ⟨g, o, none⟩ = false := by obtain ⟨m, rfl⟩ := hR; exact cf
    have c0x : x.cell? ⟨g, i * 3 + 2, none⟩ = some (.int .i64 f.sync) := by obtain ⟨m, rfl⟩ := hR; exact c0.2.2
    have hgx : g < x.heap.size := by obtain ⟨m, rfl⟩ := hR; exact hgl
    clear q c0 cf HC
    go_wp2_with fail
    all_goals (try go_ret)
    all_goals
      have e3 := First.setAt (fun f => { f with sync := (f.text.length : Int) }) HFI.out
      have e4 := total_set s.files i { f with sync := (f.text.length : Int) } hi
      rw [HFE.out] at e3 e4
      have e5 : total (s.files.set i { f with sync := (f.text.length : Int) }) = total s.files := by
        have e6 : ({ f with sync := (f.text.length : Int) } : Fl).text.length = f.text.length := rfl
        omega
      refine HPP.out 0 ⟨limit, .slice (some ⟨g, 0, none⟩) s.files.length cap, s.files.set i { f with sync := (f.text.length : Int) }, peak, false, count⟩ _ ?_ (HSX.out.trans (RS.At.filled HSX.out.at' (g := g) rfl ((But.refl [g] x).setCell (p := ⟨g, i * 3 + 2, none⟩) (.inl (by simp)) _) rfl rfl ?_))
      · rw [HE.out, HE1.out]
        show ((0 : Int), Ab.mk limit (total s.files : Nat) peak (upd nm.data.toList (fun f => { f with sync := (f.text.length : Int) }) s.files) false count) = ((0 : Int), Ab.mk limit (total (s.files.set i { f with sync := (f.text.length : Int) }) : Nat) peak (s.files.set i { f with sync := (f.text.length : Int) }) false count)
        rw [e3, e5]
      · refine OwnR.setAt (show OwnR x base (.slice (some ⟨g, 0, none⟩) s.files.length cap) s.files from HSX.out.at'.files) rfl i 2 hi (by omega) _ _ ?_
        rw [HFE.out]
        rfl
set_option maxRecDepth 100000 in
set_option maxHeartbeats 8000000 in
theorem rRemove_any (w : World) (B base : Nat) (s : RS) (nm : ByteArray) (h : s.At w B base) (hc : s.cnt) (hg : s.ab.good) (ha : s.ab.apart) (_hn : nm.size ≤ 1000000000) (hbase : base ≤ w.heap.size) :
    Calls Try.prog 38 #[.pointer (some ⟨B, 0, none⟩), .string nm] w (RfPost base B s (s.ab.remove nm.data.toList) w) := by
  have hl : s.files.length ≤ 64 := hg.few
  have HO := hid (rbegin_any w B base s nm h hc (by omega))
  have e1 : s.ab.began = s.began.ab := s.ab_began.symm
  have HE1 := hid e1
  have HG := hid hg
  have HA := hid ha
  have HSM := hid s.began_same
  rcases s.opened_cases nm.data.toList with ⟨hcr, ho⟩ | ⟨hcr, hf, ho⟩ | ⟨hcr, i, hfi, ho⟩
  · have HE : Hid (s.ab.remove nm.data.toList = (19, s.began.ab)) := by
      show _ = _
      unfold Ab.remove; rw [if_pos (by rw [crash_ab]; exact hcr), e1]
    rw [ho] at HO
    clear h hc hg ha e1 HE1
    go_enter Try.func38, Try.ntmps38
    go_wp2_with fail
    refine HO.out.mono ?_
    rintro e w1 ⟨rfl, hs1⟩
    have HS := hid hs1
    clear hs1 HO
    go_wp2_with fail
    all_goals go_ret
    all_goals exact RfPost.mk HE.out HS.out
  · have HE : Hid (s.ab.remove nm.data.toList = (5, s.began.ab)) := by
      show _ = _
      unfold Ab.remove; rw [if_neg (by rw [crash_ab, hcr]; simp), hf, e1]
    rw [ho] at HO
    clear h hc hg ha e1 HE1
    go_enter Try.func38, Try.ntmps38
    go_wp2_with fail
    refine HO.out.mono ?_
    rintro e w1 ⟨rfl, hs1⟩
    have HS := hid hs1
    clear hs1 HO
    go_wp2_with fail
    all_goals go_ret
    all_goals exact RfPost.mk HE.out HS.out
  · have hfd := hfi.found
    have HE : Hid (s.ab.remove nm.data.toList = ((0 : Int), s.ab.began.dropped nm.data.toList)) := by
      show _ = _
      unfold Ab.remove
      rw [if_neg (by rw [crash_ab, hcr]; simp), hfd]
    rw [ho] at HO
    have HFI := hid hfi
    clear h hc hg ha e1 hfd ho
    have HPP : Hid (∀ (rr : Int) (s' : RS) (w' : World), s.ab.remove nm.data.toList = (rr, s'.ab) → RStep base B s s' w w' → RfPost base B s (s.ab.remove nm.data.toList) w (.returned (.int .i64 rr)) w') := fun rr s' w' h1 h2 => RfPost.mk h1 h2
    generalize RfPost base B s (s.ab.remove nm.data.toList) w = PP at *
    have hfe : s.began.files = s.files := HSM.out.1
    generalize s.began = s1 at *
    obtain ⟨limit, v, files, peak, crash, count⟩ := s1
    simp only at hfe hcr
    subst hcr
    subst hfe
    go_enter Try.func38, Try.ntmps38
    go_wp2_with fail
    refine HO.out.mono ?_
    rintro e w1 ⟨rfl, hs1⟩
    have HS := hid hs1
    clear hs1 HO
    obtain ⟨hi, hfx⟩ := HFI.out
    clear hfx
    obtain ⟨g, cap, hvv, hgl⟩ := OwnR.form HS.out.at'.files (show 0 < s.files.length by omega)
    simp only at hvv
    subst hvv
    have q := Row.five (show Row w1 B [.int .i64 limit, .slice (some ⟨g, 0, none⟩) s.files.length cap, .int .i64 peak, .bool false, .int .i64 count] _ from HS.out.at'.row)
    have hz := HS.out.at'.row.lt
    have c0 := OwnR.cells (show OwnR w1 base (.slice (some ⟨g, 0, none⟩) s.files.length cap) s.files from HS.out.at'.files) i hi
    have cf := fun o => OwnR.free (show OwnR w1 base (.slice (some ⟨g, 0, none⟩) s.files.length cap) s.files from HS.out.at'.files) o
    have htl : s.files[i].text.length ≤ 262144 := ok_text HG.out.ok (f := s.files[i]) (List.getElem_mem hi)
    have hiI : (i : Int) < (s.files.length : Int) := by omega
    have hi64 : (i : Int) ≤ 64 := by omega
    have HDR := hid (rdrop_any w1 B base _ i HS.out.at' (show s.files.length ≤ 1000000 by omega) (by omega) (by have := HS.out.but.size; omega))
    clear q c0 cf
    go_wp2_with fail
    refine HDR.out.mono ?_
    rintro e w2 ⟨v2, rfl, hs2⟩
    have HS2 := hid (HS.out.trans hs2)
    clear hs2
    go_wp2_with fail
    all_goals (try go_ret)
    all_goals
      refine HPP.out 0 _ _ ?_ HS2.out
      rw [HE.out, HE1.out]
      have e3 := First.erase HFI.out HA.out
      have e4 : total (s.files.filter fun f => !(f.name == nm.data.toList)) + s.files[i].text.length = total s.files := filter_total HA.out HFI.out.find.2
      rw [← e3] at e4
      unfold Ab.dropped
      rw [show (RS.mk limit (.slice (some ⟨g, 0, none⟩) s.files.length cap) s.files peak false count).ab.find nm.data.toList = some s.files[i] from HFI.out.find.2]
      show ((0 : Int), Ab.mk limit ((total s.files : Nat) - (s.files[i].text.length : Int)) peak (s.files.filter fun f => !(f.name == nm.data.toList)) false count) = ((0 : Int), Ab.mk limit (total (s.files.eraseIdx i) : Nat) peak (s.files.eraseIdx i) false count)
      rw [← e3]
      congr 2
      omega
def RrPost (base B : Nat) (s : RS) (res : List UInt8 × Int × Ab) (w : World) (e : Ending) (w' : World) : Prop := ∃ s', e = .returned (.tuple #[.string ⟨res.1.toArray⟩, .int .i64 res.2.1]) ∧ s'.ab = res.2.2 ∧ RStep base B s s' w w'
theorem RrPost.mk {base B : Nat} {s s' : RS} {res : List UInt8 × Int × Ab} {w w' : World} {n : Int} {t : ByteArray} (h1 : res = (t.data.toList, n, s'.ab)) (h2 : RStep base B s s' w w') : RrPost base B s res w (.returned (.tuple #[.string t, .int .i64 n])) w' := ⟨s', by rw [h1], by rw [h1], h2⟩
set_option maxRecDepth 100000 in
set_option maxHeartbeats 8000000 in
theorem rRead_any (w : World) (B base : Nat) (s : RS) (nm : ByteArray) (fr n : Int) (h : s.At w B base) (hc : s.cnt) (hg : s.ab.good) (ha : s.ab.apart) (_hn : nm.size ≤ 1000000000) (hfr : fr ≤ 9223372036854775807) (hnn : n ≤ 9223372036854775807) (_hbase : base ≤ w.heap.size) :
    Calls Try.prog 35 #[.pointer (some ⟨B, 0, none⟩), .string nm, .int .i64 fr, .int .i64 n] w (RrPost base B s (s.ab.read nm.data.toList fr n) w) := by
  have hl : s.files.length ≤ 64 := hg.few
  have HO := hid (rbegin_any w B base s nm h hc (by omega))
  have e1 : s.ab.began = s.began.ab := s.ab_began.symm
  have HE1 := hid e1
  have HG := hid hg
  have HA := hid ha
  have HSM := hid s.began_same
  rcases s.opened_cases nm.data.toList with ⟨hcr, ho⟩ | ⟨hcr, hf, ho⟩ | ⟨hcr, i, hfi, ho⟩
  · have HE : Hid (s.ab.read nm.data.toList fr n = ([], 19, s.began.ab)) := by
      show _ = _
      unfold Ab.read; rw [if_pos (by rw [crash_ab]; exact hcr), e1]
    rw [ho] at HO
    clear h hc hg ha e1 HE1
    go_enter Try.func35, Try.ntmps35
    go_wp2_with fail
    refine HO.out.mono ?_
    rintro e w1 ⟨rfl, hs1⟩
    have HS := hid hs1
    clear hs1 HO
    go_wp2_with fail
    all_goals go_ret2
    all_goals exact RrPost.mk (t := ⟨#[]⟩) HE.out HS.out
  · have HE : Hid (s.ab.read nm.data.toList fr n = ([], 5, s.began.ab)) := by
      show _ = _
      unfold Ab.read; rw [if_neg (by rw [crash_ab, hcr]; simp), hf, e1]
    rw [ho] at HO
    clear h hc hg ha e1 HE1
    go_enter Try.func35, Try.ntmps35
    go_wp2_with fail
    refine HO.out.mono ?_
    rintro e w1 ⟨rfl, hs1⟩
    have HS := hid hs1
    clear hs1 HO
    go_wp2_with fail
    all_goals go_ret2
    all_goals exact RrPost.mk (t := ⟨#[]⟩) HE.out HS.out
  · have hfd := hfi.found
    have HE : Hid (s.ab.read nm.data.toList fr n = (if fr < 0 ∨ ((s.files[i]'hfi.1).text.length : Int) < fr ∨ n < 0 then ([], 2, s.ab.began) else (((s.files[i]'hfi.1).text.drop fr.toNat).take n.toNat, 0, s.ab.began))) := by
      show _ = _
      unfold Ab.read
      rw [if_neg (by rw [crash_ab, hcr]; simp), hfd]
    rw [ho] at HO
    have HFI := hid hfi
    clear h hc hg ha e1 hfd ho
    have HPP : Hid (∀ (t : ByteArray) (rr : Int) (s' : RS) (w' : World), s.ab.read nm.data.toList fr n = (t.data.toList, rr, s'.ab) → RStep base B s s' w w' → RrPost base B s (s.ab.read nm.data.toList fr n) w (.returned (.tuple #[.string t, .int .i64 rr])) w') := fun t rr s' w' h1 h2 => RrPost.mk h1 h2
    generalize RrPost base B s (s.ab.read nm.data.toList fr n) w = PP at *
    have hfe : s.began.files = s.files := HSM.out.1
    generalize s.began = s1 at *
    obtain ⟨limit, v, files, peak, crash, count⟩ := s1
    simp only at hfe hcr
    subst hcr
    subst hfe
    go_enter Try.func35, Try.ntmps35
    go_wp2_with fail
    refine HO.out.mono ?_
    rintro e w1 ⟨rfl, hs1⟩
    have HS := hid hs1
    clear hs1 HO
    obtain ⟨hi, hfx⟩ := HFI.out
    clear hfx
    obtain ⟨g, cap, hvv, hgl⟩ := OwnR.form HS.out.at'.files (show 0 < s.files.length by omega)
    simp only at hvv
    subst hvv
    have q := Row.five (show Row w1 B [.int .i64 limit, .slice (some ⟨g, 0, none⟩) s.files.length cap, .int .i64 peak, .bool false, .int .i64 count] _ from HS.out.at'.row)
    have hz := HS.out.at'.row.lt
    have c0 := OwnR.cells (show OwnR w1 base (.slice (some ⟨g, 0, none⟩) s.files.length cap) s.files from HS.out.at'.files) i hi
    have cf := fun o => OwnR.free (show OwnR w1 base (.slice (some ⟨g, 0, none⟩) s.files.length cap) s.files from HS.out.at'.files) o
    have htl : s.files[i].text.length ≤ 262144 := ok_text HG.out.ok (f := s.files[i]) (List.getElem_mem hi)
    have hiI : (i : Int) < (s.files.length : Int) := by omega
    have hi64 : (i : Int) ≤ 64 := by omega
    have HF0 : Hid (s.files[i]? = some s.files[i]) := by show _ = _; rw [List.getElem?_eq_getElem hi]
    generalize hfk : s.files[i] = f at htl c0
    have HFE := hid hfk
    clear hfk HF0
    have hsz : (⟨f.text.toArray⟩ : ByteArray).size = f.text.length := by show f.text.toArray.size = _; rw [List.size_toArray]
    generalize hA : (⟨f.text.toArray⟩ : ByteArray) = A at c0 hsz
    have HAA : Hid (A.data.toList = f.text) := by show _ = _; rw [← hA]
    clear hA
    have HE2 : Hid (s.ab.read nm.data.toList fr n = if fr < 0 ∨ (f.text.length : Int) < fr ∨ n < 0 then ([], 2, (RS.mk limit (.slice (some ⟨g, 0, none⟩) s.files.length cap) s.files peak false count).ab) else ((f.text.drop fr.toNat).take n.toNat, 0, (RS.mk limit (.slice (some ⟨g, 0, none⟩) s.files.length cap) s.files peak false count).ab)) := by
      show _ = _
      rw [HE.out, HE1.out, HFE.out]
    clear HE
    have BAD : Hid (fr < 0 ∨ (f.text.length : Int) < fr ∨ n < 0 → s.ab.read nm.data.toList fr n = ([], 2, (RS.mk limit (.slice (some ⟨g, 0, none⟩) s.files.length cap) s.files peak false count).ab)) := fun h => by rw [HE2.out, if_pos h]
    have GOOD : Hid (¬ (fr < 0 ∨ (f.text.length : Int) < fr ∨ n < 0) → s.ab.read nm.data.toList fr n = ((f.text.drop fr.toNat).take n.toNat, 0, (RS.mk limit (.slice (some ⟨g, 0, none⟩) s.files.length cap) s.files peak false count).ab)) := fun h => by rw [HE2.out, if_neg h]
    clear HE2
    rcases Int.lt_or_le fr 0 with h0 | h0
    · have HB := hid (BAD.out (.inl h0))
      clear BAD GOOD
      go_wp2_with fail
      all_goals (try go_ret2)
      all_goals exact HPP.out ⟨#[]⟩ 2 (RS.mk limit (.slice (some ⟨g, 0, none⟩) s.files.length cap) s.files peak false count) _ HB.out HS.out
    rcases Int.lt_or_le (f.text.length : Int) fr with h1 | h1
    · have HB := hid (BAD.out (.inr (.inl h1)))
      clear BAD GOOD
      rw [← hsz] at h1
      go_wp2_with fail
      all_goals (try go_ret2)
      all_goals exact HPP.out ⟨#[]⟩ 2 (RS.mk limit (.slice (some ⟨g, 0, none⟩) s.files.length cap) s.files peak false count) _ HB.out HS.out
    rcases Int.lt_or_le n 0 with h2 | h2
    · have HB := hid (BAD.out (.inr (.inr h2)))
      clear BAD GOOD
      rw [← hsz] at h1
      go_wp2_with fail
      all_goals (try go_ret2)
      all_goals exact HPP.out ⟨#[]⟩ 2 (RS.mk limit (.slice (some ⟨g, 0, none⟩) s.files.length cap) s.files peak false count) _ HB.out HS.out
    have HB := hid (GOOD.out (by omega))
    clear BAD GOOD
    rw [← hsz] at h1 htl
    obtain ⟨fk, rfl⟩ := Int.eq_ofNat_of_zero_le h0
    obtain ⟨nk, rfl⟩ := Int.eq_ofNat_of_zero_le h2
    clear h0 h2
    go_wp2_with fail
    all_goals (try go_ret2)
    all_goals
      refine HPP.out (A.extract fk ((fk : Int) + min (nk : Int) ((f.text.length : Int) - fk)).toNat) 0 (RS.mk limit (.slice (some ⟨g, 0, none⟩) s.files.length cap) s.files peak false count) _ ?_ HS.out
      rw [HB.out, read_text A f.text HAA.out fk nk (by omega)]
      rfl
end Go.Proofs.Ytnncbbfbnccnbaa
