/- The program's Read. -/
import Derived.Test.YtnncbbfbnccnbaaAppend
import Derived.Laws.IdiomStrings
import Derived.Laws.BytesArg
import Derived.Laws.BytesString
namespace Go.Proofs.Ytnncbbfbnccnbaa
open Go.RowKit
attribute [local go_sem] gives givesUpon

theorem conv_zero (x : World) (p : Option Addr) (c : Nat) : (convert 61 9 (.slice p 0 c)).run Try.prog x = .ok (.string ⟨#[]⟩) x := by
  rw [run_convert_bytes_string x 61 9 5 p 0 c Try.underlying61 Try.underlying5 Try.underlying9]
  cases p <;> simp [Conv.bytesToString, loadCells]
  all_goals rfl
/-- Bytes of a file's text as a string. -/
theorem txt_part {x : World} {av : Option Addr} {n cv : Nat} {bs : List UInt8} (h : Txt 5 x (.slice av n cv) bs) (k m : Nat) (hm : k + m ≤ bs.length) (c : Nat) :
    (convert 61 9 (.slice (Option.map (fun a => a.add k) av) m c)).run Try.prog x = .ok (.string ⟨((bs.drop k).take m).toArray⟩) x := by
  have hlen : ((bs.drop k).take m).length = m := by rw [List.length_take, List.length_drop]; omega
  obtain ⟨a, c0, hv, -, -, ha⟩ := h.form
  injection hv with e1 e2 e3
  subst e1 e2 e3
  rcases ha with rfl | ⟨g, rfl, hg⟩
  · have hb : bs = [] := by
      rcases h with ⟨-, hb⟩ | ⟨g, cap, cur, hv, -⟩
      · exact hb
      · cases hv
    subst hb
    have hm0 : m = 0 := by simp at hm; omega
    subst hm0
    simpa using conv_zero x none c
  · have hc := h.cells
    have := run_convert_bytes_back (P := Try.prog) x 61 9 5 ⟨g, k, none⟩ c ((bs.drop k).take m) Try.underlying61 Try.underlying5 Try.underlying9 (fun j hj => by
      rw [Addr.add_lit, hc.2 (k + j) (by omega)]
      simp)
    rw [hlen] at this
    simpa [Addr.add_lit] using this
theorem txt_none {v : Option Addr} (x : World) (m : Nat) (hm : m = 0) : (convert 61 9 (.slice v m 0)).run Try.prog x = .ok (.string ⟨#[]⟩) x := by
  subst hm
  exact conv_zero x v 0
/-- What a reading leaves: a text and an error's number. -/
def RPost (base B : Nat) (s : St) (res : List UInt8 × Int × Ab) (w : World) (e : Ending) (w' : World) : Prop :=
  ∃ s', e = .returned (.tuple #[.string ⟨res.1.toArray⟩, .int .i64 res.2.1]) ∧ s'.ab = res.2.2 ∧ Step base B s s' w w'

set_option maxRecDepth 100000 in
set_option maxHeartbeats 4000000 in
theorem Read_any (w : World) (B base : Nat) (s : St) (nm : ByteArray) (i n : Int) (hi2 : i ≤ 9223372036854775807) (hn2 : n ≤ 9223372036854775807) (h : s.At w B base) (ok : s.ab.ok) (hn : nm.size ≤ maxLen) (_hbase : base ≤ w.heap.size) :
    Calls Try.prog 13 #[.pointer (some ⟨B, 0, none⟩), .string nm, .int .i64 i, .int .i64 n] w (RPost base B s (s.ab.read nm.data.toList i n) w) := by
  have HO := hid (open_any w B base s nm h ok.count hn)
  have hob := ok.began
  rw [← St.ab_began] at hob
  have HP : Hid (s.ab.read nm.data.toList i n = if s.began.crash = true then (([] : List UInt8), (19 : Int), s.began.ab) else match s.began.find nm with
      | none => (([] : List UInt8), (5 : Int), s.began.ab)
      | some f => if i < 0 ∨ (f.text.length : Int) < i ∨ n < 0 then (([] : List UInt8), (2 : Int), s.began.ab) else ((f.text.drop i.toNat).take n.toNat, 0, s.began.ab)) := by
    show _ = _
    unfold Ab.read
    rw [← St.ab_began, St.find_ab]
    cases s.began.find nm <;> rfl
  have HOV : Hid (s.opened nm = if s.began.crash = true then .tuple #[.pointer none, .int .i64 19] else match s.began.find nm with | none => .tuple #[.pointer none, .int .i64 5] | some f => .tuple #[.pointer (some ⟨f.blk, 0, none⟩), .int .i64 0]) := by
    show _ = _
    rw [St.began_find]; rfl
  generalize s.ab.read nm.data.toList i n = res at *
  generalize s.opened nm = ov at *
  generalize s.began = s1 at *
  have HOK := hid hob
  clear h hob ok
  rcases Bool.eq_false_or_eq_true s1.crash with hcr | hcr
  · have eo : ov = .tuple #[.pointer none, .int .i64 19] := by rw [HOV.out, if_pos hcr]
    have er : res = (([] : List UInt8), (19 : Int), s1.ab) := by rw [HP.out, if_pos hcr]
    subst eo
    have HE := hid er
    clear HP HOV er hcr
    go_enter Try.func13, Try.ntmps13
    go_wp2_with fail
    refine HO.out.mono ?_
    rintro e w1 ⟨rfl, hs1⟩
    have HS := hid hs1
    clear hs1 HO
    go_wp2_with fail
    all_goals go_ret2
    all_goals exact ⟨s1, by rw [HE.out]; rfl, by rw [HE.out], HS.out⟩
  · cases hf : s1.find nm with
    | none =>
      have eo : ov = .tuple #[.pointer none, .int .i64 5] := by rw [HOV.out, if_neg (by simp [hcr]), hf]
      have er : res = (([] : List UInt8), (5 : Int), s1.ab) := by rw [HP.out, if_neg (by simp [hcr]), hf]
      subst eo
      have HE := hid er
      clear HP HOV er hcr hf
      go_enter Try.func13, Try.ntmps13
      go_wp2_with fail
      refine HO.out.mono ?_
      rintro e w1 ⟨rfl, hs1⟩
      have HS := hid hs1
      clear hs1 HO
      go_wp2_with fail
      all_goals go_ret2
      all_goals exact ⟨s1, by rw [HE.out]; rfl, by rw [HE.out], HS.out⟩
    | some f =>
      have eo : ov = .tuple #[.pointer (some ⟨f.blk, 0, none⟩), .int .i64 0] := by rw [HOV.out, if_neg (by simp [hcr]), hf]
      have er : res = if i < 0 ∨ (f.text.length : Int) < i ∨ n < 0 then (([] : List UInt8), (2 : Int), s1.ab) else ((f.text.drop i.toNat).take n.toNat, 0, s1.ab) := by rw [HP.out, if_neg (by simp [hcr]), hf]
      subst eo
      have HE := hid er
      obtain ⟨hfn, l1, l2, hsp, hl1⟩ := St.find_split hf
      have hfm : f ∈ s1.ents := by rw [hsp]; simp
      have htl : f.text.length ≤ 262144 := by
        have h1 : f.fl ∈ s1.ab.files := List.mem_map_of_mem hfm
        have h2 := total_mem h1
        have h3 : s1.used = total s1.ab.files := HOK.out.used
        have h5 : s1.used ≤ s1.limit ∧ s1.limit ≤ 262144 := HOK.out.limit
        have h4 : f.fl.text.length = f.text.length := rfl
        omega
      have HSP := hid hsp
      have HFM := hid hfm
      have HF2 : Hid ((f.name == nm.data.toList) = true ∧ ∀ x, x ∈ l1 → (x.name == nm.data.toList) = false) := ⟨hfn, hl1⟩
      clear HP HOV er hcr hf hsp hfm hfn hl1
      obtain ⟨fname, fblk, fval, ftext, fsync⟩ := f
      simp only at htl
      simp only at HE
      rcases (show i < 0 ∨ (0 ≤ i ∧ (ftext.length : Int) < i) ∨ (0 ≤ i ∧ i ≤ ftext.length ∧ n < 0) ∨ (0 ≤ i ∧ i ≤ ftext.length ∧ 0 ≤ n) by omega) with hr | hr | hr | hr
      · have HE2 : Hid (res = ([], 2, s1.ab)) := by show _ = _; rw [HE.out, if_pos (.inl hr)]
        clear HE
        go_enter Try.func13, Try.ntmps13
        go_wp2_with fail
        refine HO.out.mono ?_
        rintro e w1 ⟨rfl, hs1⟩
        have HS := hid hs1
        clear hs1 HO
        have hF := HS.out.at'.ents _ HFM.out
        obtain ⟨av, cv, hvv, hcv, -, hav⟩ := hF.txt.form
        simp only at hvv
        subst hvv
        have HFA := hid hF
        have qf := Row.two (show Row w1 fblk [.slice av ftext.length cv, .int .i64 fsync] _ from hF.row)
        have zf := hF.row.lt
        clear hF
        go_wp2_with fail
        all_goals go_ret2
        all_goals exact ⟨s1, by rw [HE2.out]; rfl, by rw [HE2.out], HS.out⟩
      · have HE2 : Hid (res = ([], 2, s1.ab)) := by show _ = _; rw [HE.out, if_pos (.inr (.inl hr.2))]
        clear HE
        go_enter Try.func13, Try.ntmps13
        go_wp2_with fail
        refine HO.out.mono ?_
        rintro e w1 ⟨rfl, hs1⟩
        have HS := hid hs1
        clear hs1 HO
        have hF := HS.out.at'.ents _ HFM.out
        obtain ⟨av, cv, hvv, hcv, -, hav⟩ := hF.txt.form
        simp only at hvv
        subst hvv
        have HFA := hid hF
        have qf := Row.two (show Row w1 fblk [.slice av ftext.length cv, .int .i64 fsync] _ from hF.row)
        have zf := hF.row.lt
        clear hF
        go_wp2_with fail
        all_goals go_ret2
        all_goals exact ⟨s1, by rw [HE2.out]; rfl, by rw [HE2.out], HS.out⟩
      · have HE2 : Hid (res = ([], 2, s1.ab)) := by show _ = _; rw [HE.out, if_pos (.inr (.inr hr.2.2))]
        clear HE
        go_enter Try.func13, Try.ntmps13
        go_wp2_with fail
        refine HO.out.mono ?_
        rintro e w1 ⟨rfl, hs1⟩
        have HS := hid hs1
        clear hs1 HO
        have hF := HS.out.at'.ents _ HFM.out
        obtain ⟨av, cv, hvv, hcv, -, hav⟩ := hF.txt.form
        simp only at hvv
        subst hvv
        have HFA := hid hF
        have qf := Row.two (show Row w1 fblk [.slice av ftext.length cv, .int .i64 fsync] _ from hF.row)
        have zf := hF.row.lt
        clear hF
        go_wp2_with fail
        all_goals go_ret2
        all_goals exact ⟨s1, by rw [HE2.out]; rfl, by rw [HE2.out], HS.out⟩
      · have HE2 : Hid (res = ((ftext.drop i.toNat).take n.toNat, 0, s1.ab)) := by show _ = _; rw [HE.out, if_neg (by omega)]
        clear HE
        obtain ⟨k, rfl⟩ : ∃ k : Nat, i = k := ⟨i.toNat, by omega⟩
        obtain ⟨m, rfl⟩ : ∃ m : Nat, n = m := ⟨n.toNat, by omega⟩
        have hk : k ≤ ftext.length := by omega
        go_enter Try.func13, Try.ntmps13
        go_wp2_with fail
        refine HO.out.mono ?_
        rintro e w1 ⟨rfl, hs1⟩
        have HS := hid hs1
        clear hs1 HO
        have hF := HS.out.at'.ents _ HFM.out
        obtain ⟨av, cv, hvv, hcv, -, hav⟩ := hF.txt.form
        simp only at hvv
        subst hvv
        have HFA := hid hF
        have qf := Row.two (show Row w1 fblk [.slice av ftext.length cv, .int .i64 fsync] _ from hF.row)
        have zf := hF.row.lt
        clear hF
        have HC := hid (fun (x : World) (hx : Below w1.heap.size w1.drew x) => Row.two ((show Row w1.drew fblk [.slice av ftext.length cv, .int .i64 fsync] _ from HFA.out.row).below hx HFA.out.row.lt))
        have hwr : IntKind.i64.wrap ((ftext.length : Int) - k) = ftext.length - k := IntWalk.i64_in _ (by omega)
        have HTX := hid (fun (x : World) (hx : Below w1.heap.size w1.drew x) => ((HFA.out.txt.kept (w' := w1.drew) (fun _ _ => rfl)).below hx HFA.out.txt.lt))
        go_wp2_with fail
        refine wp_region_inv 16 (Below w1.heap.size) (by kernel_rfl) (by kernel_rfl) (Below.refl _) (fun _ _ _ => Below.trans) ?_
        simp only [fill, dstOf, Act.put, List.take_succ_cons, List.take_zero, List.getElem?_toArray, List.getElem?_cons_zero, List.getElem?_cons_succ, Option.bind_some, List.setIfInBounds_toArray, List.set_cons_zero, List.set_cons_succ]
        refine Plan.det 1 rfl (Below.refl _) ?_
        apply Exists.intro
        refine ⟨fun vs x hR hF K hK => ?_, ?_⟩
        · clear hF
          go_simp
          exact hK _ _ (Below.refl _ _) rfl
        refine Plan.det 2 rfl (Below.refl _) ?_
        apply Exists.intro
        refine ⟨fun vs x hR hF K hK => ?_, ?_⟩
        · have f0 := hF 0 _ _ rfl rfl; clear hF
          go_simp
          exact hK _ _ (Below.refl _ _) rfl
        refine Plan.det 3 rfl (Below.refl _) ?_
        apply Exists.intro
        refine ⟨fun vs x hR hF K hK => ?_, ?_⟩
        · have f1 := hF 0 _ _ rfl rfl; clear hF
          go_simp
          exact hK _ _ (Below.refl _ _) rfl
        refine Plan.det 4 rfl (Below.refl _) ?_
        apply Exists.intro
        refine ⟨fun vs x hR hF K hK => ?_, ?_⟩
        · have f2 := hF 0 _ _ rfl rfl; have hc := HC.out x hR; clear hF
          go_simp
          exact hK _ _ (Below.refl _ _) rfl
        refine Plan.det 5 rfl (Below.refl _) ?_
        apply Exists.intro
        refine ⟨fun vs x hR hF K hK => ?_, ?_⟩
        · clear hF
          go_simp
          exact hK _ _ (Below.refl _ _) rfl
        refine Plan.det 6 rfl (Below.refl _) ?_
        apply Exists.intro
        refine ⟨fun vs x hR hF K hK => ?_, ?_⟩
        · clear hF
          go_simp
          exact hK _ _ (Below.refl _ _) rfl
        refine Plan.det 7 rfl (Below.refl _) ?_
        apply Exists.intro
        refine ⟨fun vs x hR hF K hK => ?_, ?_⟩
        · clear hF
          go_simp
          exact hK _ _ (Below.refl _ _) rfl
        refine Plan.det 8 rfl (Below.refl _) ?_
        apply Exists.intro
        refine ⟨fun vs x hR hF K hK => ?_, ?_⟩
        · clear hF
          go_simp
          exact hK _ _ (Below.refl _ _) rfl
        refine Plan.det 9 rfl (Below.refl _) ?_
        apply Exists.intro
        refine ⟨fun vs x hR hF K hK => ?_, ?_⟩
        · have f7 := hF 0 _ _ rfl rfl; clear hF
          go_simp
          exact hK _ _ (Below.refl _ _) rfl
        refine Plan.det 10 rfl (Below.refl _) ?_
        apply Exists.intro
        refine ⟨fun vs x hR hF K hK => ?_, ?_⟩
        · have f8 := hF 0 _ _ rfl rfl; clear hF
          go_simp
          exact hK _ _ (Below.refl _ _) rfl
        refine Plan.det 11 rfl (Below.refl _) ?_
        apply Exists.intro
        refine ⟨fun vs x hR hF K hK => ?_, ?_⟩
        · have f9 := hF 0 _ _ rfl rfl; have hc := HC.out x hR; clear hF
          go_simp
          exact hK _ _ (Below.refl _ _) rfl
        refine Plan.det 12 rfl (Below.refl _) ?_
        apply Exists.intro
        refine ⟨fun vs x hR hF K hK => ?_, ?_⟩
        · have f10 := hF 0 _ _ rfl rfl; clear hF
          go_simp
          exact hK _ _ (Below.refl _ _) rfl
        refine Plan.det 13 rfl (Below.refl _) ?_
        apply Exists.intro
        refine ⟨fun vs x hR hF K hK => ?_, ?_⟩
        · clear hF
          go_simp
          exact hK _ _ (Below.refl _ _) rfl
        refine Plan.det 14 rfl (Below.refl _) ?_
        apply Exists.intro
        refine ⟨fun vs x hR hF K hK => ?_, ?_⟩
        · have f11 := hF 1 _ _ rfl rfl; have f12 := hF 0 _ _ rfl rfl; clear hF
          go_simp
          exact hK _ _ (Below.refl _ _) rfl
        refine Plan.det 15 rfl (Below.refl _) ?_
        apply Exists.intro
        refine ⟨fun vs x hR hF K hK => ?_, ?_⟩
        · have f6 := hF 7 _ _ rfl rfl; have f13 := hF 0 _ _ rfl rfl; clear hF
          go_simp
          exact hK _ _ (Below.refl _ _) rfl
        refine Plan.det 16 rfl (Below.refl _) ?_
        apply Exists.intro
        refine ⟨fun vs x hR hF K hK => ?_, ?_⟩
        · have f5 := hF 9 _ _ rfl rfl; have f14 := hF 0 _ _ rfl rfl; clear hF
          go_simp
          exact hK _ _ (Below.refl _ _) rfl
        refine Plan.nil (fun vs x hR hF => ?_)
        have f0 := hF 15 _ _ rfl; have f1 := hF 14 _ _ rfl; have f2 := hF 13 _ _ rfl; have f3 := hF 12 _ _ rfl; have f4 := hF 11 _ _ rfl; have f5 := hF 10 _ _ rfl; have f6 := hF 9 _ _ rfl; have f7 := hF 8 _ _ rfl; have f8 := hF 7 _ _ rfl; have f9 := hF 6 _ _ rfl; have f10 := hF 5 _ _ rfl; have f11 := hF 4 _ _ rfl; have f12 := hF 3 _ _ rfl; have f13 := hF 2 _ _ rfl; have f14 := hF 1 _ _ rfl; have f15 := hF 0 _ _ rfl
        clear hF
        simp only [f0, f1, f2, f3, f4, f5, f6, f7, f8, f9, f10, f11, f12, f13, f14, f15]
        clear f0 f1 f2 f3 f4 f5 f6 f7 f8 f9 f10 f11 f12 f13 f14 f15
        simp only [List.drop_succ_cons, List.drop_zero]
        have htx := HTX.out x hR
        have HX : Hid (Step base B s s1 w x) := (HS.out.trans ⟨HS.out.at'.kept (w' := w1.drew) (fun k _ => rfl), ⟨rfl, rfl, rfl, Nat.le_refl _, fun _ _ _ => rfl⟩, fun _ hk => .inl hk⟩).more hR (Nat.le_refl _)
        clear HTX HC hR
        rcases Nat.lt_or_ge k cv with hck | hck
        · rcases Nat.lt_or_ge (ftext.length - k) m with dm | dm
          · have dm2 : (ftext.length : Int) - k < m := by omega
            have hcv2 := txt_part htx k (ftext.length - k) (by omega) (cv - k)
            have HQ : Hid ((ftext.drop k).take m = (ftext.drop k).take (ftext.length - k)) := by show _ = _; rw [List.take_of_length_le (by rw [List.length_drop]; omega), List.take_of_length_le (by rw [List.length_drop]; exact Nat.le_refl _)]
            have HXX := hid htx
            clear htx dm
            go_wp2_with fail
            all_goals go_ret2
            all_goals exact ⟨s1, by rw [HE2.out]; simp [HQ.out], by rw [HE2.out], HX.out⟩
          · have dm2 : (m : Int) ≤ (ftext.length : Int) - k := by omega
            have hcv2 := txt_part htx k m (by omega) (cv - k)
            have HXX := hid htx
            clear htx dm
            go_wp2_with fail
            all_goals go_ret2
            all_goals exact ⟨s1, by rw [HE2.out]; simp, by rw [HE2.out], HX.out⟩
        · obtain rfl : cv = k := by omega
          have hlk : ftext.length = cv := by omega
          have HQ : Hid ((ftext.drop cv).take m = []) := by show _ = _; rw [List.drop_of_length_le (by omega)]; simp
          rcases Nat.lt_or_ge 0 m with dm | dm
          · have dm2 : (ftext.length : Int) - cv < m := by omega
            have hcv2 := txt_none (v := av) x 0 rfl
            clear htx hlk
            go_wp2_with fail
            all_goals go_ret2
            all_goals exact ⟨s1, by rw [HE2.out]; simp [HQ.out], by rw [HE2.out], HX.out⟩
          · obtain rfl : m = 0 := by omega
            have dm2 : (0 : Int) ≤ (ftext.length : Int) - cv := by omega
            have hcv2 := txt_none (v := av) x 0 rfl
            clear dm
            clear htx hlk
            go_wp2_with fail
            all_goals go_ret2
            all_goals exact ⟨s1, by rw [HE2.out]; simp [HQ.out], by rw [HE2.out], HX.out⟩
end Go.Proofs.Ytnncbbfbnccnbaa
