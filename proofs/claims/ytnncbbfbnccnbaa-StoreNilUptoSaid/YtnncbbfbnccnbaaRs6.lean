/- The reference's store: Append, Rename. Written by gen_rops2.py. -/
import Derived.Test.YtnncbbfbnccnbaaRs5
namespace Go.Proofs.Ytnncbbfbnccnbaa
open Go.RowKit
attribute [local go_sem] gives givesUpon

theorem str_app (a : List UInt8) (b : ByteArray) : (⟨a.toArray⟩ : ByteArray) ++ b = ⟨(a ++ b.data.toList).toArray⟩ := by
  apply ByteArray.ext
  rw [ByteArray.data_append]
  simp
theorem Ab.same {a b : Ab} (h1 : a.limit = b.limit) (h2 : a.used = b.used) (h3 : a.peak = b.peak) (h4 : a.files = b.files) (h5 : a.crash = b.crash) (h6 : a.count = b.count) : a = b := by
  cases a; cases b
  simp only at h1 h2 h3 h4 h5 h6
  subst h1 h2 h3 h4 h5 h6
  rfl
theorem dropped_files (a : Ab) (nw : List UInt8) : (a.dropped nw).files = a.files.filter (fun g => !(g.name == nw)) ∧ (a.dropped nw).limit = a.limit ∧ (a.dropped nw).peak = a.peak ∧ (a.dropped nw).crash = a.crash ∧ (a.dropped nw).count = a.count := by
  unfold Ab.dropped
  cases h : a.find nw with
  | some f => exact ⟨rfl, rfl, rfl, rfl, rfl⟩
  | none =>
    refine ⟨?_, rfl, rfl, rfl, rfl⟩
    rw [filter_none]
    intro f hf
    unfold Ab.find at h
    rw [List.find?_eq_none] at h
    simpa using h f hf
theorem ins_erase : ∀ {L : List Fl} {i : Nat} (_hs : L.Pairwise fun f g => bytesBefore f.name g.name = true) (h : i < L.length), ins L[i] (L.eraseIdx i) = L
  | x :: L, 0, hs, _ => by
    show ins x L = x :: L
    cases L with
    | nil => rfl
    | cons y L =>
      rw [List.pairwise_cons] at hs
      have h1 : (Lit.string x.name).before (.string y.name) = true := hs.1 y (by simp)
      unfold ins
      rw [if_pos h1]
  | x :: L, i + 1, hs, h => by
    have hi : i < L.length := Nat.lt_of_succ_lt_succ h
    rw [List.pairwise_cons] at hs
    have h1 : bytesBefore x.name L[i].name = true := hs.1 _ (List.getElem_mem hi)
    have h2 : (Lit.string L[i].name).before (.string x.name) = false := (before_yes h1).1
    show ins L[i] (x :: L.eraseIdx i) = x :: L
    unfold ins
    rw [if_neg (by rw [h2]; simp), ins_erase hs.2 hi]
theorem rename_plain {L L2 : List Fl} {nm nw : List UInt8} {i : Nat} (hF : First nm L i) (hap : L.Pairwise fun f g => (f.name == g.name) = false) (hs : L.Pairwise fun f g => bytesBefore f.name g.name = true)
    (h2 : L2 = (L.eraseIdx i).filter fun g => !(g.name == nw)) (fn ft : List UInt8) (fs : Int) (hf : L[i]'hF.1 = ⟨fn, ft, fs⟩) :
    (if nm = nw then L else ins ⟨nw, ft, fs⟩ ((L.filter fun g => !(g.name == nw)).filter fun g => !(g.name == nm))) = ins ⟨nw, ft, fs⟩ L2 := by
  have e1 := First.erase hF hap
  split
  · rename_i h
    subst h
    obtain ⟨hi, hn, -⟩ := id hF
    have e2 : L2 = L.eraseIdx i := by
      rw [h2, e1, List.filter_filter]
      simp
    have e3 := ins_erase hs hi
    have e4 : fn = nm := by
      rw [hf] at hn
      simpa using hn
    rw [hf, e4] at e3
    rw [e2, e3]
  · rw [h2, e1, List.filter_filter, List.filter_filter]
    congr 2
    funext g
    exact Bool.and_comm _ _
/-- A plain state whose used bytes are the sum is known by the rest. -/
theorem Ab.sameUsed {a : Ab} (s : RS) (ha : a.good) (h1 : a.limit = s.limit) (h3 : a.peak = s.peak) (h4 : a.files = s.files) (h5 : a.crash = s.crash) (h6 : a.count = s.count) : a = s.ab :=
  Ab.same h1 (by rw [ha.ok.used, h4]; rfl) h3 h4 h5 h6
set_option maxRecDepth 100000 in
set_option maxHeartbeats 8000000 in
theorem rAppend_any (w : World) (B base : Nat) (s : RS) (nm : ByteArray) (tx : ByteArray) (h : s.At w B base) (hc : s.cnt) (hg : s.ab.good) (ha : s.ab.apart) (_hn : nm.size ≤ 1000000000) (_htx : tx.size ≤ 1000) (_hbase : base ≤ w.heap.size) :
    Calls Try.prog 34 #[.pointer (some ⟨B, 0, none⟩), .string nm, .string tx] w (RfPost base B s (s.ab.append nm.data.toList tx.data.toList) w) := by
  have hl : s.files.length ≤ 64 := hg.few
  have HO := hid (rbegin_any w B base s nm h hc (by omega))
  have e1 : s.ab.began = s.began.ab := s.ab_began.symm
  have HE1 := hid e1
  have HG := hid hg
  have HA := hid ha
  have HSM := hid s.began_same
  rcases s.opened_cases nm.data.toList with ⟨hcr, ho⟩ | ⟨hcr, hf, ho⟩ | ⟨hcr, i, hfi, ho⟩
  · have HE : Hid (s.ab.append nm.data.toList tx.data.toList = (19, s.began.ab)) := by
      show _ = _
      unfold Ab.append; rw [if_pos (by rw [crash_ab]; exact hcr), e1]
    rw [ho] at HO
    clear h hc hg ha e1 HE1
    go_enter Try.func34, Try.ntmps34
    go_wp2_with fail
    refine HO.out.mono ?_
    rintro e w1 ⟨rfl, hs1⟩
    have HS := hid hs1
    clear hs1 HO
    go_wp2_with fail
    all_goals go_ret
    all_goals exact RfPost.mk HE.out HS.out
  · have HE : Hid (s.ab.append nm.data.toList tx.data.toList = (5, s.began.ab)) := by
      show _ = _
      unfold Ab.append; rw [if_neg (by rw [crash_ab, hcr]; simp), hf, e1]
    rw [ho] at HO
    clear h hc hg ha e1 HE1
    go_enter Try.func34, Try.ntmps34
    go_wp2_with fail
    refine HO.out.mono ?_
    rintro e w1 ⟨rfl, hs1⟩
    have HS := hid hs1
    clear hs1 HO
    go_wp2_with fail
    all_goals go_ret
    all_goals exact RfPost.mk HE.out HS.out
  · have hfd := hfi.found
    have HE : Hid (s.ab.append nm.data.toList tx.data.toList = (if s.ab.began.limit < s.ab.began.used + (tx.data.toList.length : Int) then (12, s.ab.began) else (0, { s.ab.began with used := s.ab.began.used + (tx.data.toList.length : Int), peak := max s.ab.began.peak (s.ab.began.used + (tx.data.toList.length : Int)), files := upd nm.data.toList (fun f => { f with text := f.text ++ tx.data.toList }) s.ab.began.files }))) := by
      show _ = _
      unfold Ab.append
      rw [if_neg (by rw [crash_ab, hcr]; simp), hfd]
    rw [ho] at HO
    have HFI := hid hfi
    clear h hc hg ha e1 hfd ho
    have HPP : Hid (∀ (rr : Int) (s' : RS) (w' : World), s.ab.append nm.data.toList tx.data.toList = (rr, s'.ab) → RStep base B s s' w w' → RfPost base B s (s.ab.append nm.data.toList tx.data.toList) w (.returned (.int .i64 rr)) w') := fun rr s' w' h1 h2 => RfPost.mk h1 h2
    generalize RfPost base B s (s.ab.append nm.data.toList tx.data.toList) w = PP at *
    have hfe : s.began.files = s.files := HSM.out.1
    generalize s.began = s1 at *
    obtain ⟨limit, v, files, peak, crash, count⟩ := s1
    simp only at hfe hcr
    subst hcr
    subst hfe
    go_enter Try.func34, Try.ntmps34
    go_wp2_with fail
    refine HO.out.mono ?_
    rintro e w1 ⟨rfl, hs1⟩
    have HS := hid hs1
    clear hs1 HO
    obtain ⟨hi, hfx⟩ := HFI.out
    clear hfx
    obtain ⟨g, cap, hvv, hgl⟩ := OwnR.form HS.out.at'.files (show 0 < s.files.length by omega)
    simp only at hvv
    subst hvv
    have q := Row.five (show Row w1 B [.int .i64 limit, .slice (some ⟨g, 0, none⟩) s.files.length cap, .int .i64 peak, .bool false, .int .i64 count] _ from HS.out.at'.row)
    have hz := HS.out.at'.row.lt
    have c0 := OwnR.cells (show OwnR w1 base (.slice (some ⟨g, 0, none⟩) s.files.length cap) s.files from HS.out.at'.files) i hi
    have cf := fun o => OwnR.free (show OwnR w1 base (.slice (some ⟨g, 0, none⟩) s.files.length cap) s.files from HS.out.at'.files) o
    have htl : s.files[i].text.length ≤ 262144 := ok_text HG.out.ok (f := s.files[i]) (List.getElem_mem hi)
    have hiI : (i : Int) < (s.files.length : Int) := by omega
    have hi64 : (i : Int) ≤ 64 := by omega
    have HFK : Hid (s.files[i] = s.files[i]) := rfl
    generalize hfk : s.files[i] = f at htl c0
    have HFE := hid hfk
    clear hfk HFK
    have hsz : (⟨f.text.toArray⟩ : ByteArray).size = f.text.length := by show f.text.toArray.size = _; rw [List.size_toArray]
    have hlim : (total s.files : Int) ≤ limit ∧ limit ≤ 262144 := by
      have h1 := HG.out.ok.limit
      have h2 : s.ab.used = total s.files := rfl
      have h3 : s.ab.limit = limit := HSM.out.2.2.1.symm
      omega
    have hlim1 := hlim.1
    have hlim2 := hlim.2
    clear hlim
    have HU := hid (fun (x : World) (hx : Grow w1.drew x) => rUsed_any x B base _ (HS.out.at'.below (show Below w1.heap.size w1 x from ⟨hx.os, hx.tape, hx.output, hx.size, hx.block⟩) (Nat.le_refl _)) (show s.files.length ≤ 1000000 by omega) (show total s.files ≤ 1000000 by omega))
    have HC := hid (fun (x : World) (hx : Grow w1.drew x) => Row.five ((show Row w1.drew B [.int .i64 limit, .slice (some ⟨g, 0, none⟩) s.files.length cap, .int .i64 peak, .bool false, .int .i64 count] _ from HS.out.at'.row).below hx hz))
    simp only at HU
    clear q c0 cf
    have hwr : IntKind.i64.wrap (limit - (total s.files : Nat)) = limit - (total s.files : Nat) := IntWalk.i64_in _ (by omega)
    go_upto_region 4 with fail
    refine wp_region_inv 10 (Grow) (by kernel_rfl) (by kernel_rfl) (Grow.refl) (fun _ _ _ => Grow.trans) ?_
    simp only [fill, dstOf, Act.put, List.take_succ_cons, List.take_zero, List.getElem?_toArray, List.getElem?_cons_zero, List.getElem?_cons_succ, Option.bind_some, List.setIfInBounds_toArray, List.set_cons_zero, List.set_cons_succ]
    refine Plan.det 1 rfl (Grow.refl) ?_
    apply Exists.intro
    refine ⟨fun vs x hR hF K hK => ?_, ?_⟩
    · clear hF
      go_simp
      exact hK _ _ (Grow.refl _) rfl
    refine Plan.det 2 rfl (Grow.refl) ?_
    apply Exists.intro
    refine ⟨fun vs x hR hF K hK => ?_, ?_⟩
    · have f0 := hF 0 _ _ rfl rfl; clear hF
      go_simp
      exact hK _ _ (Grow.refl _) rfl
    refine Plan.det 3 rfl (Grow.refl) ?_
    apply Exists.intro
    refine ⟨fun vs x hR hF K hK => ?_, ?_⟩
    · clear hF
      go_simp
      exact hK _ _ (Grow.refl _) rfl
    refine Plan.det 4 rfl (Grow.refl) ?_
    apply Exists.intro
    refine ⟨fun vs x hR hF K hK => ?_, ?_⟩
    · have f2 := hF 0 _ _ rfl rfl; clear hF
      go_simp
      exact hK _ _ (Grow.refl _) rfl
    refine Plan.det 5 rfl (Grow.refl) ?_
    apply Exists.intro
    refine ⟨fun vs x hR hF K hK => ?_, ?_⟩
    · have f3 := hF 0 _ _ rfl rfl; clear hF
      go_simp
      exact hK _ _ (Grow.refl _) rfl
    refine Plan.det 6 rfl (Grow.refl) ?_
    apply Exists.intro
    refine ⟨fun vs x hR hF K hK => ?_, ?_⟩
    · have f4 := hF 0 _ _ rfl rfl; have hc := HC.out x hR; clear hF
      go_simp
      exact hK _ _ (Grow.refl _) rfl
    refine Plan.det 7 rfl (Grow.refl) ?_
    apply Exists.intro
    refine ⟨fun vs x hR hF K hK => ?_, ?_⟩
    · clear hF
      go_simp
      exact hK _ _ (Grow.refl _) rfl
    refine Plan.det 8 rfl (Grow.refl) ?_
    apply Exists.intro
    refine ⟨fun vs x hR hF K hK => ?_, ?_⟩
    · have f6 := hF 0 _ _ rfl rfl; clear hF
      go_simp
      refine (HU.out x hR).mono ?_
      rintro e x1 ⟨rfl, hbe⟩
      exact ⟨_, rfl, hK _ _ hbe rfl⟩
    refine Plan.det 9 rfl (Grow.refl) ?_
    apply Exists.intro
    refine ⟨fun vs x hR hF K hK => ?_, ?_⟩
    · have f5 := hF 2 _ _ rfl rfl; have f7 := hF 0 _ _ rfl rfl; clear hF
      go_simp
      exact hK _ _ (Grow.refl _) rfl
    refine Plan.det 10 rfl (Grow.refl) ?_
    apply Exists.intro
    refine ⟨fun vs x hR hF K hK => ?_, ?_⟩
    · have f1 := hF 7 _ _ rfl rfl; have f8 := hF 0 _ _ rfl rfl; clear hF
      go_simp
      exact hK _ _ (Grow.refl _) rfl
    refine Plan.nil (fun vs x hR hF => ?_)
    have f0 := hF 9 _ _ rfl; have f1 := hF 8 _ _ rfl; have f2 := hF 7 _ _ rfl; have f3 := hF 6 _ _ rfl; have f4 := hF 5 _ _ rfl; have f5 := hF 4 _ _ rfl; have f6 := hF 3 _ _ rfl; have f7 := hF 2 _ _ rfl; have f8 := hF 1 _ _ rfl; have f9 := hF 0 _ _ rfl
    clear hF
    simp only [f0, f1, f2, f3, f4, f5, f6, f7, f8, f9]
    clear f0 f1 f2 f3 f4 f5 f6 f7 f8 f9
    simp only [List.drop_succ_cons, List.drop_zero]
    have hb1 : Below w1.heap.size w1 x := ⟨hR.os, hR.tape, hR.output, hR.size, hR.block⟩
    have HSX := hid (HS.out.more hb1 (Nat.le_refl _))
    clear HC HU hR hb1
    have HE3 : Hid (s.ab.append nm.data.toList tx.data.toList = if limit < (total s.files : Nat) + (tx.data.toList.length : Int) then (12, (RS.mk limit (.slice (some ⟨g, 0, none⟩) s.files.length cap) s.files peak false count).ab) else (0, { (RS.mk limit (.slice (some ⟨g, 0, none⟩) s.files.length cap) s.files peak false count).ab with used := (total s.files : Nat) + (tx.data.toList.length : Int), peak := max peak ((total s.files : Nat) + (tx.data.toList.length : Int)), files := upd nm.data.toList (fun f => { f with text := f.text ++ tx.data.toList }) s.files })) := by
      show _ = _
      rw [HE.out, HE1.out]; rfl
    have htxl : tx.data.toList.length = tx.size := BA_len tx
    clear HE
    rcases Int.lt_or_le limit ((total s.files : Nat) + (tx.size : Int)) with hfull | hfull
    · have hd : decide (limit - (total s.files : Nat) < (tx.size : Int)) = true := by simp; omega
      have HB : Hid (s.ab.append nm.data.toList tx.data.toList = (12, (RS.mk limit (.slice (some ⟨g, 0, none⟩) s.files.length cap) s.files peak false count).ab)) := by
        show _ = _
        rw [HE3.out, if_pos (by rw [htxl]; exact hfull)]
      clear HE3
      go_wp2_with fail
      all_goals (try go_ret)
      all_goals exact HPP.out 12 (RS.mk limit (.slice (some ⟨g, 0, none⟩) s.files.length cap) s.files peak false count) _ HB.out HSX.out
    have hd : decide (limit - (total s.files : Nat) < (tx.size : Int)) = false := by simp; omega
    have HB : Hid (s.ab.append nm.data.toList tx.data.toList = (0, { (RS.mk limit (.slice (some ⟨g, 0, none⟩) s.files.length cap) s.files peak false count).ab with used := (total s.files : Nat) + (tx.data.toList.length : Int), peak := max peak ((total s.files : Nat) + (tx.data.toList.length : Int)), files := upd nm.data.toList (fun f => { f with text := f.text ++ tx.data.toList }) s.files })) := by
      show _ = _
      rw [HE3.out, if_neg (by rw [htxl]; omega)]
    clear HE3
    obtain ⟨x4, hx4⟩ : ∃ x4, x4 = x := ⟨x, rfl⟩
    subst hx4
    have hsm : (f.text.length : Int) + tx.size ≤ 1000000 := by
      have h1 : s.files[i].text.length ≤ total s.files := total_mem (List.getElem_mem hi)
      rw [HFE.out] at h1
      omega
    have c4 := OwnR.cells (show OwnR x4 base (.slice (some ⟨g, 0, none⟩) s.files.length cap) s.files from HSX.out.at'.files) i hi
    rw [HFE.out] at c4
    have HC := hid (fun (x : World) (hx : Drawn x4.drew x) => And.intro (by obtain ⟨m, rfl⟩ := hx; exact Row.five (show Row x4 B [.int .i64 limit, .slice (some ⟨g, 0, none⟩) s.files.length cap, .int .i64 peak, .bool false, .int .i64 count] _ from HSX.out.at'.row) : ((x.cell? ⟨B, 0, none⟩ = some (.int .i64 limit) ∧ x.cell? ⟨B, 1, none⟩ = some (.slice (some ⟨g, 0, none⟩) s.files.length cap) ∧ x.cell? ⟨B, 2, none⟩ = some (.int .i64 peak) ∧ x.cell? ⟨B, 3, none⟩ = some (.bool false) ∧ x.cell? ⟨B, 4, none⟩ = some (.int .i64 count)) ∧ _)) (by obtain ⟨m, rfl⟩ := hx; exact c4 : x.cell? ⟨g, i * 3, none⟩ = some (.string ⟨f.name.toArray⟩) ∧ x.cell? ⟨g, i * 3 + 1, none⟩ = some (.string ⟨f.text.toArray⟩) ∧ x.cell? ⟨g, i * 3 + 2, none⟩ = some (.int .i64 f.sync)))
    have cf4 := fun o => OwnR.free (show OwnR x4 base (.slice (some ⟨g, 0, none⟩) s.files.length cap) s.files from HSX.out.at'.files) o
    have hg4 : g < x4.heap.size := (HSX.out.at'.files.lt g rfl).2
    generalize hA : (⟨f.text.toArray⟩ : ByteArray) = A at HC c4 hsz
    have HAA := hid hA
    clear hA
    have hcc : (9223372036854775807 < f.text.length + tx.size) = False := by simp; omega
    go_upto_region 6 with fail
    refine wp_region_inv 17 (Drawn) (by kernel_rfl) (by kernel_rfl) (Drawn.refl) (fun _ _ _ => Drawn.trans) ?_
    simp only [fill, dstOf, Act.put, List.take_succ_cons, List.take_zero, List.getElem?_toArray, List.getElem?_cons_zero, List.getElem?_cons_succ, Option.bind_some, List.setIfInBounds_toArray, List.set_cons_zero, List.set_cons_succ]
    refine Plan.det 1 rfl (Drawn.refl) ?_
    apply Exists.intro
    refine ⟨fun vs x hR hF K hK => ?_, ?_⟩
    · clear hF
      go_simp
      exact hK _ _ (Drawn.refl _) rfl
    refine Plan.det 2 rfl (Drawn.refl) ?_
    apply Exists.intro
    refine ⟨fun vs x hR hF K hK => ?_, ?_⟩
    · have f0 := hF 0 _ _ rfl rfl; clear hF
      go_simp
      exact hK _ _ (Drawn.refl _) rfl
    refine Plan.det 3 rfl (Drawn.refl) ?_
    apply Exists.intro
    refine ⟨fun vs x hR hF K hK => ?_, ?_⟩
    · have f1 := hF 0 _ _ rfl rfl; clear hF
      go_simp
      exact hK _ _ (Drawn.refl _) rfl
    refine Plan.det 4 rfl (Drawn.refl) ?_
    apply Exists.intro
    refine ⟨fun vs x hR hF K hK => ?_, ?_⟩
    · have f2 := hF 0 _ _ rfl rfl; have hc := HC.out x hR; clear hF
      go_simp
      exact hK _ _ (Drawn.refl _) rfl
    refine Plan.det 5 rfl (Drawn.refl) ?_
    apply Exists.intro
    refine ⟨fun vs x hR hF K hK => ?_, ?_⟩
    · clear hF
      go_simp
      exact hK _ _ (Drawn.refl _) rfl
    refine Plan.det 6 rfl (Drawn.refl) ?_
    apply Exists.intro
    refine ⟨fun vs x hR hF K hK => ?_, ?_⟩
    · clear hF
      go_simp
      exact hK _ _ (Drawn.refl _) rfl
    refine Plan.det 7 rfl (Drawn.refl) ?_
    apply Exists.intro
    refine ⟨fun vs x hR hF K hK => ?_, ?_⟩
    · have f5 := hF 0 _ _ rfl rfl; clear hF
      go_simp
      exact hK _ _ (Drawn.refl _) rfl
    refine Plan.det 8 rfl (Drawn.refl) ?_
    apply Exists.intro
    refine ⟨fun vs x hR hF K hK => ?_, ?_⟩
    · have f6 := hF 0 _ _ rfl rfl; clear hF
      go_simp
      exact hK _ _ (Drawn.refl _) rfl
    refine Plan.det 9 rfl (Drawn.refl) ?_
    apply Exists.intro
    refine ⟨fun vs x hR hF K hK => ?_, ?_⟩
    · have f7 := hF 0 _ _ rfl rfl; have hc := HC.out x hR; clear hF
      go_simp
      exact hK _ _ (Drawn.refl _) rfl
    refine Plan.det 10 rfl (Drawn.refl) ?_
    apply Exists.intro
    refine ⟨fun vs x hR hF K hK => ?_, ?_⟩
    · clear hF
      go_simp
      exact hK _ _ (Drawn.refl _) rfl
    refine Plan.det 11 rfl (Drawn.refl) ?_
    apply Exists.intro
    refine ⟨fun vs x hR hF K hK => ?_, ?_⟩
    · have f8 := hF 1 _ _ rfl rfl; have f9 := hF 0 _ _ rfl rfl; clear hF
      go_simp
      exact hK _ _ (Drawn.refl _) rfl
    refine Plan.det 12 rfl (Drawn.refl) ?_
    apply Exists.intro
    refine ⟨fun vs x hR hF K hK => ?_, ?_⟩
    · have f10 := hF 0 _ _ rfl rfl; clear hF
      go_simp
      exact hK _ _ (Drawn.refl _) rfl
    refine Plan.det 13 rfl (Drawn.refl) ?_
    apply Exists.intro
    refine ⟨fun vs x hR hF K hK => ?_, ?_⟩
    · have f11 := hF 0 _ _ rfl rfl; have hc := HC.out x hR; clear hF
      go_simp
      exact hK _ _ (Drawn.refl _) rfl
    refine Plan.det 14 rfl (Drawn.refl) ?_
    apply Exists.intro
    refine ⟨fun vs x hR hF K hK => ?_, ?_⟩
    · clear hF
      go_simp
      exact hK _ _ (Drawn.refl _) rfl
    refine Plan.det 15 rfl (Drawn.refl) ?_
    apply Exists.intro
    refine ⟨fun vs x hR hF K hK => ?_, ?_⟩
    · have f12 := hF 1 _ _ rfl rfl; have f13 := hF 0 _ _ rfl rfl; clear hF
      go_simp
      exact hK _ _ (Drawn.refl _) rfl
    refine Plan.det 16 rfl (Drawn.refl) ?_
    apply Exists.intro
    refine ⟨fun vs x hR hF K hK => ?_, ?_⟩
    · have f0 := hF 14 _ _ rfl rfl; have f1 := hF 13 _ _ rfl rfl; have f2 := hF 12 _ _ rfl rfl; have f3 := hF 11 _ _ rfl rfl; have f4 := hF 10 _ _ rfl rfl; have f5 := hF 9 _ _ rfl rfl; have f6 := hF 8 _ _ rfl rfl; have f7 := hF 7 _ _ rfl rfl; have f8 := hF 6 _ _ rfl rfl; have f9 := hF 5 _ _ rfl rfl; have f10 := hF 4 _ _ rfl rfl; have f11 := hF 3 _ _ rfl rfl; have f12 := hF 2 _ _ rfl rfl; have f13 := hF 1 _ _ rfl rfl; have f14 := hF 0 _ _ rfl rfl; clear hF
      go_simp
      exact hK _ _ (Drawn.refl _) rfl
    refine Plan.det 17 rfl (Drawn.refl) ?_
    apply Exists.intro
    refine ⟨fun vs x hR hF K hK => ?_, ?_⟩
    · have f0 := hF 15 _ _ rfl rfl; have f1 := hF 14 _ _ rfl rfl; have f2 := hF 13 _ _ rfl rfl; have f3 := hF 12 _ _ rfl rfl; have f4 := hF 11 _ _ rfl rfl; have f5 := hF 10 _ _ rfl rfl; have f6 := hF 9 _ _ rfl rfl; have f7 := hF 8 _ _ rfl rfl; have f8 := hF 7 _ _ rfl rfl; have f9 := hF 6 _ _ rfl rfl; have f10 := hF 5 _ _ rfl rfl; have f11 := hF 4 _ _ rfl rfl; have f12 := hF 3 _ _ rfl rfl; have f13 := hF 2 _ _ rfl rfl; have f14 := hF 1 _ _ rfl rfl; have f15 := hF 0 _ _ rfl rfl; clear hF
      go_simp
      exact hK _ _ (Drawn.refl _) rfl
    refine Plan.nil (fun vs x hR hF => ?_)
    have f0 := hF 16 _ _ rfl; have f1 := hF 15 _ _ rfl; have f2 := hF 14 _ _ rfl; have f3 := hF 13 _ _ rfl; have f4 := hF 12 _ _ rfl; have f5 := hF 11 _ _ rfl; have f6 := hF 10 _ _ rfl; have f7 := hF 9 _ _ rfl; have f8 := hF 8 _ _ rfl; have f9 := hF 7 _ _ rfl; have f10 := hF 6 _ _ rfl; have f11 := hF 5 _ _ rfl; have f12 := hF 4 _ _ rfl; have f13 := hF 3 _ _ rfl; have f14 := hF 2 _ _ rfl; have f15 := hF 1 _ _ rfl; have f16 := hF 0 _ _ rfl
    clear hF
    simp only [f0, f1, f2, f3, f4, f5, f6, f7, f8, f9, f10, f11, f12, f13, f14, f15, f16]
    clear f0 f1 f2 f3 f4 f5 f6 f7 f8 f9 f10 f11 f12 f13 f14 f15 f16
    simp only [List.drop_succ_cons, List.drop_zero]
    have HDX := hid (Drawn.trans ⟨1, rfl⟩ hR : Drawn x4 x)
    have HSY := hid (HSX.out.more HDX.out.below (Nat.le_refl _))
    have cfx : ∀ o, x.frozen? ⟨g, o, none⟩ = false := by obtain ⟨m, rfl⟩ := hR; exact cf4
    have c0x : x.cell? ⟨g, i * 3 + 1, none⟩ = some (.string A) := by obtain ⟨m, rfl⟩ := hR; exact c4.2.1
    have hgx : g < x.heap.size := by obtain ⟨m, rfl⟩ := hR; exact hg4
    clear c4 cf4 HC
    go_upto_region 7 with fail
    have e3 := First.setAt (fun f => { f with text := f.text ++ tx.data.toList }) HFI.out
    have e4 := total_set s.files i { f with text := f.text ++ tx.data.toList } hi
    rw [HFE.out] at e3 e4
    have e5 : total (s.files.set i { f with text := f.text ++ tx.data.toList }) = total s.files + tx.size := by
      have e6 : ({ f with text := f.text ++ tx.data.toList } : Fl).text.length = f.text.length + tx.size := by
        show (f.text ++ tx.data.toList).length = _
        rw [List.length_append, htxl]
      omega
    have hs6 := HSY.out.trans (RS.At.filled (s' := ⟨limit, .slice (some ⟨g, 0, none⟩) s.files.length cap, s.files.set i { f with text := f.text ++ tx.data.toList }, peak, false, count⟩) HSY.out.at' (g := g) rfl ((But.refl [g] x).setCell (p := ⟨g, i * 3 + 1, none⟩) (.inl (by simp)) (.string (A ++ tx))) rfl rfl (by
      refine OwnR.setAt (show OwnR x base (.slice (some ⟨g, 0, none⟩) s.files.length cap) s.files from HSY.out.at'.files) rfl i 1 hi (by omega) _ _ ?_
      rw [HFE.out, ← HAA.out, str_app]
      rfl))
    have HS6 := hid hs6
    have HE5 := hid (And.intro e3 e5)
    clear hs6 hR cfx c0x hgx HSY HDX HSX HS e3 e4 e5
    generalize x.setCell ⟨g, i * 3 + 1, none⟩ (.string (A ++ tx)) = y at *
    have hzy := HS6.out.at'.row.lt
    have q6 := Row.five (show Row y B [.int .i64 limit, .slice (some ⟨g, 0, none⟩) s.files.length cap, .int .i64 peak, .bool false, .int .i64 count] _ from HS6.out.at'.row)
    have hle : total s.files + tx.size ≤ 1000000 := by omega
    have HU := hid (fun (x : World) (hx : Grow y.drew x) => rUsed_any x B base _ (HS6.out.at'.below (show Below y.heap.size y x from ⟨hx.os, hx.tape, hx.output, hx.size, hx.block⟩) (Nat.le_refl _)) (show (s.files.set i _).length ≤ 1000000 by rw [List.length_set]; omega) (show total (s.files.set i _) ≤ 1000000 by rw [HE5.out.2]; omega))
    have HC := hid (fun (x : World) (hx : Grow y.drew x) => Row.five ((show Row y.drew B [.int .i64 limit, .slice (some ⟨g, 0, none⟩) s.files.length cap, .int .i64 peak, .bool false, .int .i64 count] _ from HS6.out.at'.row).below hx hzy))
    simp only [HE5.out.2] at HU
    clear q6
    refine wp_region_inv 10 (Grow) (by kernel_rfl) (by kernel_rfl) (Grow.refl) (fun _ _ _ => Grow.trans) ?_
    simp only [fill, dstOf, Act.put, List.take_succ_cons, List.take_zero, List.getElem?_toArray, List.getElem?_cons_zero, List.getElem?_cons_succ, Option.bind_some, List.setIfInBounds_toArray, List.set_cons_zero, List.set_cons_succ]
    refine Plan.det 1 rfl (Grow.refl) ?_
    apply Exists.intro
    refine ⟨fun vs x hR hF K hK => ?_, ?_⟩
    · clear hF
      go_simp
      exact hK _ _ (Grow.refl _) rfl
    refine Plan.det 2 rfl (Grow.refl) ?_
    apply Exists.intro
    refine ⟨fun vs x hR hF K hK => ?_, ?_⟩
    · clear hF
      go_simp
      exact hK _ _ (Grow.refl _) rfl
    refine Plan.det 3 rfl (Grow.refl) ?_
    apply Exists.intro
    refine ⟨fun vs x hR hF K hK => ?_, ?_⟩
    · have f1 := hF 0 _ _ rfl rfl; clear hF
      go_simp
      exact hK _ _ (Grow.refl _) rfl
    refine Plan.det 4 rfl (Grow.refl) ?_
    apply Exists.intro
    refine ⟨fun vs x hR hF K hK => ?_, ?_⟩
    · have f2 := hF 0 _ _ rfl rfl; clear hF
      go_simp
      exact hK _ _ (Grow.refl _) rfl
    refine Plan.det 5 rfl (Grow.refl) ?_
    apply Exists.intro
    refine ⟨fun vs x hR hF K hK => ?_, ?_⟩
    · have f3 := hF 0 _ _ rfl rfl; have hc := HC.out x hR; clear hF
      go_simp
      exact hK _ _ (Grow.refl _) rfl
    refine Plan.det 6 rfl (Grow.refl) ?_
    apply Exists.intro
    refine ⟨fun vs x hR hF K hK => ?_, ?_⟩
    · clear hF
      go_simp
      exact hK _ _ (Grow.refl _) rfl
    refine Plan.det 7 rfl (Grow.refl) ?_
    apply Exists.intro
    refine ⟨fun vs x hR hF K hK => ?_, ?_⟩
    · have f5 := hF 0 _ _ rfl rfl; clear hF
      go_simp
      refine (HU.out x hR).mono ?_
      rintro e x1 ⟨rfl, hbe⟩
      exact ⟨_, rfl, hK _ _ hbe rfl⟩
    refine Plan.det 8 rfl (Grow.refl) ?_
    apply Exists.intro
    refine ⟨fun vs x hR hF K hK => ?_, ?_⟩
    · have f4 := hF 2 _ _ rfl rfl; have f6 := hF 0 _ _ rfl rfl; clear hF
      go_simp
      exact hK _ _ (Grow.refl _) rfl
    refine Plan.det 9 rfl (Grow.refl) ?_
    apply Exists.intro
    refine ⟨fun vs x hR hF K hK => ?_, ?_⟩
    · have f0 := hF 7 _ _ rfl rfl; have f1 := hF 6 _ _ rfl rfl; have f2 := hF 5 _ _ rfl rfl; have f3 := hF 4 _ _ rfl rfl; have f4 := hF 3 _ _ rfl rfl; have f5 := hF 2 _ _ rfl rfl; have f6 := hF 1 _ _ rfl rfl; have f7 := hF 0 _ _ rfl rfl; clear hF
      go_simp
      exact hK _ _ (Grow.refl _) rfl
    refine Plan.det 10 rfl (Grow.refl) ?_
    apply Exists.intro
    refine ⟨fun vs x hR hF K hK => ?_, ?_⟩
    · have f0 := hF 8 _ _ rfl rfl; have f1 := hF 7 _ _ rfl rfl; have f2 := hF 6 _ _ rfl rfl; have f3 := hF 5 _ _ rfl rfl; have f4 := hF 4 _ _ rfl rfl; have f5 := hF 3 _ _ rfl rfl; have f6 := hF 2 _ _ rfl rfl; have f7 := hF 1 _ _ rfl rfl; have f8 := hF 0 _ _ rfl rfl; clear hF
      go_simp
      exact hK _ _ (Grow.refl _) rfl
    refine Plan.nil (fun vs x hR hF => ?_)
    have f0 := hF 9 _ _ rfl; have f1 := hF 8 _ _ rfl; have f2 := hF 7 _ _ rfl; have f3 := hF 6 _ _ rfl; have f4 := hF 5 _ _ rfl; have f5 := hF 4 _ _ rfl; have f6 := hF 3 _ _ rfl; have f7 := hF 2 _ _ rfl; have f8 := hF 1 _ _ rfl; have f9 := hF 0 _ _ rfl
    clear hF
    simp only [f0, f1, f2, f3, f4, f5, f6, f7, f8, f9]
    clear f0 f1 f2 f3 f4 f5 f6 f7 f8 f9
    simp only [List.drop_succ_cons, List.drop_zero]
    have hb1 : Below y.heap.size y x := ⟨hR.os, hR.tape, hR.output, hR.size, hR.block⟩
    have HS7 := hid (HS6.out.more hb1 (Nat.le_refl _))
    have hzx := HS7.out.at'.row.lt
    have q7 := Row.five (show Row x B [.int .i64 limit, .slice (some ⟨g, 0, none⟩) s.files.length cap, .int .i64 peak, .bool false, .int .i64 count] _ from HS7.out.at'.row)
    clear HC HU hR hb1
    go_wp2_with fail
    all_goals (try go_ret)
    all_goals
      refine HPP.out 0 ⟨limit, .slice (some ⟨g, 0, none⟩) s.files.length cap, s.files.set i { f with text := f.text ++ tx.data.toList }, max peak ((total s.files : Nat) + (tx.size : Int)), false, count⟩ _ ?_ (HS7.out.trans (HS7.out.at'.fields ((But.refl [B] x).setCell (p := ⟨B, 2, none⟩) (.inl (by simp)) _) (HS7.out.at'.row.set 2 _) rfl rfl))
      rw [HB.out]
      show ((0 : Int), Ab.mk limit ((total s.files : Nat) + (tx.data.toList.length : Int)) (max peak ((total s.files : Nat) + (tx.data.toList.length : Int))) (upd nm.data.toList (fun f => { f with text := f.text ++ tx.data.toList }) s.files) false count) = ((0 : Int), Ab.mk limit (total (s.files.set i { f with text := f.text ++ tx.data.toList }) : Nat) (max peak ((total s.files : Nat) + (tx.size : Int))) (s.files.set i { f with text := f.text ++ tx.data.toList }) false count)
      rw [HE5.out.1, HE5.out.2, htxl]
      rfl
set_option maxRecDepth 100000 in
set_option maxHeartbeats 8000000 in
theorem rRename_any (w : World) (B base : Nat) (s : RS) (nm : ByteArray) (tx : ByteArray) (h : s.At w B base) (hc : s.cnt) (hg : s.ab.good) (ha : s.ab.apart) (_hn : nm.size ≤ 1000000000) (htx : tx.size ≤ 1000) (hsort : s.files.Pairwise fun f g => bytesBefore f.name g.name = true) (hbase : base ≤ w.heap.size) :
    Calls Try.prog 37 #[.pointer (some ⟨B, 0, none⟩), .string nm, .string tx] w (RfPost base B s (s.ab.rename nm.data.toList tx.data.toList) w) := by
  have hl : s.files.length ≤ 64 := hg.few
  have HO := hid (rbegin_any w B base s nm h hc (by omega))
  have e1 : s.ab.began = s.began.ab := s.ab_began.symm
  have HE1 := hid e1
  have HG := hid hg
  have HA := hid ha
  have HSM := hid s.began_same
  rcases s.opened_cases nm.data.toList with ⟨hcr, ho⟩ | ⟨hcr, hf, ho⟩ | ⟨hcr, i, hfi, ho⟩
  · have HE : Hid (s.ab.rename nm.data.toList tx.data.toList = (19, s.began.ab)) := by
      show _ = _
      unfold Ab.rename; rw [if_pos (by rw [crash_ab]; exact hcr), e1]
    rw [ho] at HO
    clear h hc hg ha e1 HE1
    go_enter Try.func37, Try.ntmps37
    go_wp2_with fail
    refine HO.out.mono ?_
    rintro e w1 ⟨rfl, hs1⟩
    have HS := hid hs1
    clear hs1 HO
    go_wp2_with fail
    all_goals go_ret
    all_goals exact RfPost.mk HE.out HS.out
  · have HE : Hid (s.ab.rename nm.data.toList tx.data.toList = (5, s.began.ab)) := by
      show _ = _
      unfold Ab.rename; rw [if_neg (by rw [crash_ab, hcr]; simp), hf, e1]
    rw [ho] at HO
    clear h hc hg ha e1 HE1
    go_enter Try.func37, Try.ntmps37
    go_wp2_with fail
    refine HO.out.mono ?_
    rintro e w1 ⟨rfl, hs1⟩
    have HS := hid hs1
    clear hs1 HO
    go_wp2_with fail
    all_goals go_ret
    all_goals exact RfPost.mk HE.out HS.out
  · have hfd := hfi.found
    have HE : Hid (s.ab.rename nm.data.toList tx.data.toList = (if nameOk tx.data.toList = false then (4, s.ab.began) else if nm.data.toList = tx.data.toList then (0, s.ab.began) else (0, { s.ab.began.dropped tx.data.toList with files := ins ⟨tx.data.toList, (s.files[i]'hfi.1).text, (s.files[i]'hfi.1).sync⟩ ((s.ab.began.dropped tx.data.toList).files.filter fun g => !(g.name == nm.data.toList)) }))) := by
      show _ = _
      unfold Ab.rename
      rw [if_neg (by rw [crash_ab, hcr]; simp), hfd]
    rw [ho] at HO
    have HFI := hid hfi
    clear h hc hg ha e1 hfd ho
    have HPP : Hid (∀ (rr : Int) (s' : RS) (w' : World), s.ab.rename nm.data.toList tx.data.toList = (rr, s'.ab) → RStep base B s s' w w' → RfPost base B s (s.ab.rename nm.data.toList tx.data.toList) w (.returned (.int .i64 rr)) w') := fun rr s' w' h1 h2 => RfPost.mk h1 h2
    generalize RfPost base B s (s.ab.rename nm.data.toList tx.data.toList) w = PP at *
    have hfe : s.began.files = s.files := HSM.out.1
    generalize s.began = s1 at *
    obtain ⟨limit, v, files, peak, crash, count⟩ := s1
    simp only at hfe hcr
    subst hcr
    subst hfe
    go_enter Try.func37, Try.ntmps37
    go_wp2_with fail
    refine HO.out.mono ?_
    rintro e w1 ⟨rfl, hs1⟩
    have HS := hid hs1
    clear hs1 HO
    obtain ⟨hi, hfx⟩ := HFI.out
    clear hfx
    obtain ⟨g, cap, hvv, hgl⟩ := OwnR.form HS.out.at'.files (show 0 < s.files.length by omega)
    simp only at hvv
    subst hvv
    have q := Row.five (show Row w1 B [.int .i64 limit, .slice (some ⟨g, 0, none⟩) s.files.length cap, .int .i64 peak, .bool false, .int .i64 count] _ from HS.out.at'.row)
    have hz := HS.out.at'.row.lt
    have c0 := OwnR.cells (show OwnR w1 base (.slice (some ⟨g, 0, none⟩) s.files.length cap) s.files from HS.out.at'.files) i hi
    have cf := fun o => OwnR.free (show OwnR w1 base (.slice (some ⟨g, 0, none⟩) s.files.length cap) s.files from HS.out.at'.files) o
    have htl : s.files[i].text.length ≤ 262144 := ok_text HG.out.ok (f := s.files[i]) (List.getElem_mem hi)
    have hiI : (i : Int) < (s.files.length : Int) := by omega
    have hi64 : (i : Int) ≤ 64 := by omega
    have HGO := hid (HG.out.rename HA.out nm.data.toList tx.data.toList).1
    have HAP : Hid (s.files.Pairwise fun f g => (f.name == g.name) = false) := HA.out
    have HFX := hid (HFI.out)
    generalize hfk : s.files[i] = f at htl c0
    have HFE := hid hfk
    clear hfk
    obtain ⟨fn, ft, fs⟩ := f
    simp only at htl c0
    go_wp2_with fail
    refine (RefName_any tx w1 (by omega)).mono ?_
    rintro e w2 ⟨rfl, rfl⟩
    rcases Bool.eq_false_or_eq_true (nameOk tx.data.toList) with hno | hno
    case inr =>
      have HB : Hid (s.ab.rename nm.data.toList tx.data.toList = (4, (RS.mk limit (.slice (some ⟨g, 0, none⟩) s.files.length cap) s.files peak false count).ab)) := by
        show _ = _
        rw [HE.out, if_pos hno, HE1.out]
      rw [hno]
      clear HE hno
      go_wp2_with fail
      all_goals (try go_ret)
      all_goals exact HPP.out 4 (RS.mk limit (.slice (some ⟨g, 0, none⟩) s.files.length cap) s.files peak false count) _ HB.out HS.out
    rw [hno]
    go_upto_region 8 with fail
    have HR9 := hid (Row.at w2 [.string tx, .string ⟨ft.toArray⟩, .int .i64 fs] 74)
    have HSX := hid (HS.out.more ((Below.refl _ w2).alloc (Nat.le_refl _) (.cells #[.string tx, .string ⟨ft.toArray⟩, .int .i64 fs] 74)) (Nat.le_refl _))
    have HNO := hid (fun (hk : w2.heap.size ∈ RS.own ⟨limit, .slice (some ⟨g, 0, none⟩) s.files.length cap, s.files, peak, false, count⟩ B) => (show False by have := (HS.out.at'.blocks _ hk).2; omega))
    have HSW := hid HS.out.but.size
    replace HR9 : Hid (Row (w2.alloc (.cells #[.string tx, .string ⟨ft.toArray⟩, .int .i64 fs] 74)) w2.heap.size [.string tx, .string ⟨ft.toArray⟩, .int .i64 fs] 74) := HR9
    clear q c0 cf hz hgl HS
    generalize w2.alloc (.cells #[.string tx, .string ⟨ft.toArray⟩, .int .i64 fs] 74) = x at *
    generalize w2.heap.size = b9 at *
    have HBX := hid (Nat.le_trans HSW.out (show b9 ≤ b9 from Nat.le_refl _))
    have HFIN : Hid (∀ (v : Value) (L2 : List Fl) (w' : World), L2 = ((s.files.eraseIdx i).filter fun g => !(g.name == tx.data.toList)) → RStep base B s ⟨limit, v, ins ⟨tx.data.toList, ft, fs⟩ L2, peak, false, count⟩ w w' → PP (.returned (.int .i64 0)) w') := by
      intro v L2 w' h2 hst
      have hpl := rename_plain HFX.out HAP.out hsort h2 fn ft fs HFE.out
      have hgo := HGO.out
      refine HPP.out 0 _ w' ?_ hst
      rw [HE.out, if_neg (by rw [hno]; simp), HE1.out, HFE.out] at hgo ⊢
      by_cases hnn : nm.data.toList = tx.data.toList
      · rw [if_pos hnn] at hgo hpl ⊢
        congr 1
        refine Ab.sameUsed _ hgo rfl rfl ?_ rfl rfl
        exact hpl
      · rw [if_neg hnn] at hgo hpl ⊢
        congr 1
        obtain ⟨d1, d2, d3, d4, d5⟩ := dropped_files (RS.mk limit (.slice (some ⟨g, 0, none⟩) s.files.length cap) s.files peak false count).ab tx.data.toList
        refine Ab.sameUsed _ hgo d2 d3 ?_ d4 d5
        show ins _ _ = ins _ L2
        rw [d1]
        exact hpl
    clear HE HPP HGO hno
    have HDR := hid (rdrop_any x B base _ i HSX.out.at' (show s.files.length ≤ 1000000 by omega) (by omega) (by have := HSX.out.but.size; omega))
    go_wp2_with fail
    refine HDR.out.mono ?_
    rintro e w3 ⟨v3, rfl, hs3⟩
    have HN3 := hid (fun hk => (hs3.own b9 hk).elim HNO.out (fun h => by have := HR9.out.lt; omega))
    have HR3 := hid (HR9.out.but hs3.but HNO.out)
    have HS3 := hid (HSX.out.trans hs3)
    clear hs3 HDR HNO HR9 HSX
    have hle3 : (s.files.eraseIdx i).length ≤ 64 := Nat.le_trans (List.length_eraseIdx_le _ _) hl
    go_wp2_with fail
    refine (place_any w3 B base _ tx HS3.out.at' (show (s.files.eraseIdx i).length ≤ 1000000 by omega)).mono ?_
    rintro e w4 ⟨rfl, rfl⟩
    rcases place_cases tx.data.toList (s.files.eraseIdx i) with ⟨hp, hfn⟩ | ⟨k, hp, hfk⟩
    · rw [hp]
      have hL2 : s.files.eraseIdx i = ((s.files.eraseIdx i).filter fun g => !(g.name == tx.data.toList)) := by
        rw [filter_none]
        intro f hf
        rw [List.find?_eq_none] at hfn
        simpa using hfn f hf
      have HL2 := hid hL2
      clear hL2 hfn hp
      have q9 : w4.cell? ⟨b9, 0, none⟩ = some (.string tx) ∧ w4.cell? ⟨b9, 1, none⟩ = some (.string ⟨ft.toArray⟩) ∧ w4.cell? ⟨b9, 2, none⟩ = some (.int .i64 fs) := ⟨HR3.out.cell 0, HR3.out.cell 1, HR3.out.cell 2⟩
      have hz4 := HR3.out.lt
      have HPU := hid (rput_any w4 B base _ ⟨tx.data.toList, ft, fs⟩ HS3.out.at' (show (s.files.eraseIdx i).length ≤ 1000000 by omega) (by have := HS3.out.but.size; omega))
      unfold rcells at HPU
      try simp only [] at HPU
      go_wp2_with fail
      refine HPU.out.mono ?_
      rintro e w5 ⟨v5, rfl, hs5⟩
      have HS5 := hid (HS3.out.trans hs5)
      clear hs5
      go_wp2_with fail
      all_goals (try go_ret)
      all_goals exact HFIN.out _ _ _ HL2.out HS5.out
    · rw [hp]
      have HFK := hid hfk
      have hki : k < (s.files.eraseIdx i).length := hfk.1
      clear hfk hp
      have HDR := hid (rdrop_any w4 B base _ k HS3.out.at' (show (s.files.eraseIdx i).length ≤ 1000000 by omega) (by omega) (by have := HS3.out.but.size; omega))
      go_wp2_with fail
      refine HDR.out.mono ?_
      rintro e w5 ⟨v5, rfl, hs5⟩
      have HR5 := hid (HR3.out.but hs5.but HN3.out)
      have HS5 := hid (HS3.out.trans hs5)
      clear hs5 HDR HR3 HS3
      have HL2 : Hid ((s.files.eraseIdx i).eraseIdx k = ((s.files.eraseIdx i).filter fun g => !(g.name == tx.data.toList))) := First.erase HFK.out (HAP.out.sublist (List.eraseIdx_sublist _ _))
      have hle5 : ((s.files.eraseIdx i).eraseIdx k).length ≤ 64 := Nat.le_trans (List.length_eraseIdx_le _ _) hle3
      have q9 : w5.cell? ⟨b9, 0, none⟩ = some (.string tx) ∧ w5.cell? ⟨b9, 1, none⟩ = some (.string ⟨ft.toArray⟩) ∧ w5.cell? ⟨b9, 2, none⟩ = some (.int .i64 fs) := ⟨HR5.out.cell 0, HR5.out.cell 1, HR5.out.cell 2⟩
      have hz5 := HR5.out.lt
      have HPU := hid (rput_any w5 B base _ ⟨tx.data.toList, ft, fs⟩ HS5.out.at' (show ((s.files.eraseIdx i).eraseIdx k).length ≤ 1000000 by omega) (by have := HS5.out.but.size; omega))
      unfold rcells at HPU
      try simp only [] at HPU
      go_wp2_with fail
      refine HPU.out.mono ?_
      rintro e w6 ⟨v6, rfl, hs6⟩
      have HS6 := hid (HS5.out.trans hs6)
      clear hs6
      go_wp2_with fail
      all_goals (try go_ret)
      all_goals exact HFIN.out _ _ _ HL2.out HS6.out
end Go.Proofs.Ytnncbbfbnccnbaa
