/- A store that neither crashed nor counts down: a whole file is read, and nothing is written. -/
import Derived.Test.YtnncbbfbnccnbaaLawBounds
import Derived.Test.YtnncbbfbnccnbaaCrash
namespace Go.Proofs.Ytnncbbfbnccnbaa
open Go.RowKit
attribute [local go_sem] gives givesUpon

def Drawn (w w' : World) : Prop := ∃ m, w' = w.drewN m
theorem Drawn.refl (w : World) : Drawn w w := ⟨0, rfl⟩
theorem Drawn.trans {a b c : World} (h : Drawn a b) (k : Drawn b c) : Drawn a c := by
  obtain ⟨m, rfl⟩ := h
  obtain ⟨n, rfl⟩ := k
  exact ⟨m + n, World.drewN_drewN ..⟩
theorem Drawn.below {a b : World} (h : Drawn a b) : Below a.heap.size a b := by
  obtain ⟨m, rfl⟩ := h
  exact below_drewN (Below.refl _ _) _
theorem begin_calm (w : World) (B base : Nat) (s : St) (h : s.At w B base) (hcr : s.crash = false) (hct : s.count = 0) :
    Calls Try.prog 28 #[.pointer (some ⟨B, 0, none⟩)] w fun e w' => e = .returned (.bool false) ∧ w' = w := by
  have q := h.six
  have z := h.row.lt
  clear h
  obtain ⟨limit, used, peak, mp, ents, crash, count⟩ := s
  simp only at q hcr hct
  subst hcr hct
  go_enter Try.func28, Try.ntmps28
  go_wp2_with fail
  all_goals go_ret
  all_goals exact ⟨rfl, rfl⟩
set_option maxHeartbeats 2000000 in
theorem open_calm (w : World) (B base : Nat) (s : St) (nm : ByteArray) (f : Ent) (h : s.At w B base) (hcr : s.crash = false) (hct : s.count = 0) (hf : s.find nm = some f) (hn : nm.size ≤ maxLen) :
    Calls Try.prog 30 #[.pointer (some ⟨B, 0, none⟩), .string nm] w fun e w' => e = .returned (.tuple #[.pointer (some ⟨f.blk, 0, none⟩), .int .i64 0]) ∧ w' = w := by
  have HB := hid (begin_calm w B base s h hcr hct)
  have q := h.six
  have hlk := h.look nm hn
  have ep : s.ptr nm = some ⟨f.blk, 0, none⟩ := by unfold St.ptr; rw [hf]; rfl
  rw [ep] at hlk
  clear hf ep h
  obtain ⟨limit, used, peak, mp, ents, crash, count⟩ := s
  simp only at q hlk hcr hct
  subst hcr hct
  go_enter Try.func30, Try.ntmps30
  go_wp2_with fail
  refine HB.out.mono ?_
  rintro e w1 ⟨rfl, rfl⟩
  go_wp2_with fail
  all_goals go_ret2
  all_goals exact ⟨rfl, rfl⟩
set_option maxRecDepth 100000 in
set_option maxHeartbeats 4000000 in
theorem Read_calm (w : World) (B base : Nat) (s : St) (nm : ByteArray) (f : Ent) (h : s.At w B base) (hcr : s.crash = false) (hct : s.count = 0) (hf : s.find nm = some f) (hn : nm.size ≤ maxLen) (hlen : f.text.length ≤ 262144) :
    Calls Try.prog 13 #[.pointer (some ⟨B, 0, none⟩), .string nm, .int .i64 0, .int .i64 f.text.length] w fun e w' => e = .returned (.tuple #[.string ⟨f.text.toArray⟩, .int .i64 0]) ∧ Drawn w w' := by
  have HO := hid (open_calm w B base s nm f h hcr hct hf hn)
  obtain ⟨-, l1, l2, hsp, -⟩ := St.find_split hf
  have hF := h.ents f (by rw [hsp]; simp)
  clear hsp hf hcr hct h
  obtain ⟨fname, fblk, fval, ftext, fsync⟩ := f
  simp only at hlen
  obtain ⟨av, cv, hvv, hcv, -, hav⟩ := hF.txt.form
  simp only at hvv
  subst hvv
  have HFA := hid hF
  have qf := Row.two (show Row w fblk [.slice av ftext.length cv, .int .i64 fsync] _ from hF.row)
  have zf := hF.row.lt
  clear hF
  go_enter Try.func13, Try.ntmps13
  go_wp2_with fail
  refine HO.out.mono ?_
  rintro e w1 ⟨rfl, rfl⟩
  clear HO
  have HC := hid (fun (x : World) (hx : Drawn w1.drew x) => Row.two ((show Row w1.drew fblk [.slice av ftext.length cv, .int .i64 fsync] _ from HFA.out.row).below hx.below HFA.out.row.lt))
  have HTX := hid (fun (x : World) (hx : Drawn w1.drew x) => ((HFA.out.txt.kept (w' := w1.drew) (fun _ _ => rfl)).below hx.below HFA.out.txt.lt))
  have hwr : IntKind.i64.wrap ((ftext.length : Int) - 0) = ftext.length - 0 := IntWalk.i64_in _ (by omega)
  go_wp2_with fail
  refine wp_region_inv 16 (Drawn) (by kernel_rfl) (by kernel_rfl) (Drawn.refl) (fun _ _ _ => Drawn.trans) ?_
  simp only [fill, dstOf, Act.put, List.take_succ_cons, List.take_zero, List.getElem?_toArray, List.getElem?_cons_zero, List.getElem?_cons_succ, Option.bind_some, List.setIfInBounds_toArray, List.set_cons_zero, List.set_cons_succ]
  refine Plan.det 1 rfl (Drawn.refl) ?_
  apply Exists.intro
  refine ⟨fun vs x hR hF K hK => ?_, ?_⟩
  · clear hF
    go_simp
    exact hK _ _ (Drawn.refl _) rfl
  refine Plan.det 2 rfl (Drawn.refl) ?_
  apply Exists.intro
  refine ⟨fun vs x hR hF K hK => ?_, ?_⟩
  · have f0 := hF 0 _ _ rfl rfl; clear hF
    go_simp
    exact hK _ _ (Drawn.refl _) rfl
  refine Plan.det 3 rfl (Drawn.refl) ?_
  apply Exists.intro
  refine ⟨fun vs x hR hF K hK => ?_, ?_⟩
  · have f1 := hF 0 _ _ rfl rfl; clear hF
    go_simp
    exact hK _ _ (Drawn.refl _) rfl
  refine Plan.det 4 rfl (Drawn.refl) ?_
  apply Exists.intro
  refine ⟨fun vs x hR hF K hK => ?_, ?_⟩
  · have f2 := hF 0 _ _ rfl rfl; have hc := HC.out x hR; clear hF
    go_simp
    exact hK _ _ (Drawn.refl _) rfl
  refine Plan.det 5 rfl (Drawn.refl) ?_
  apply Exists.intro
  refine ⟨fun vs x hR hF K hK => ?_, ?_⟩
  · clear hF
    go_simp
    exact hK _ _ (Drawn.refl _) rfl
  refine Plan.det 6 rfl (Drawn.refl) ?_
  apply Exists.intro
  refine ⟨fun vs x hR hF K hK => ?_, ?_⟩
  · clear hF
    go_simp
    exact hK _ _ (Drawn.refl _) rfl
  refine Plan.det 7 rfl (Drawn.refl) ?_
  apply Exists.intro
  refine ⟨fun vs x hR hF K hK => ?_, ?_⟩
  · clear hF
    go_simp
    exact hK _ _ (Drawn.refl _) rfl
  refine Plan.det 8 rfl (Drawn.refl) ?_
  apply Exists.intro
  refine ⟨fun vs x hR hF K hK => ?_, ?_⟩
  · clear hF
    go_simp
    exact hK _ _ (Drawn.refl _) rfl
  refine Plan.det 9 rfl (Drawn.refl) ?_
  apply Exists.intro
  refine ⟨fun vs x hR hF K hK => ?_, ?_⟩
  · have f7 := hF 0 _ _ rfl rfl; clear hF
    go_simp
    exact hK _ _ (Drawn.refl _) rfl
  refine Plan.det 10 rfl (Drawn.refl) ?_
  apply Exists.intro
  refine ⟨fun vs x hR hF K hK => ?_, ?_⟩
  · have f8 := hF 0 _ _ rfl rfl; clear hF
    go_simp
    exact hK _ _ (Drawn.refl _) rfl
  refine Plan.det 11 rfl (Drawn.refl) ?_
  apply Exists.intro
  refine ⟨fun vs x hR hF K hK => ?_, ?_⟩
  · have f9 := hF 0 _ _ rfl rfl; have hc := HC.out x hR; clear hF
    go_simp
    exact hK _ _ (Drawn.refl _) rfl
  refine Plan.det 12 rfl (Drawn.refl) ?_
  apply Exists.intro
  refine ⟨fun vs x hR hF K hK => ?_, ?_⟩
  · have f10 := hF 0 _ _ rfl rfl; clear hF
    go_simp
    exact hK _ _ (Drawn.refl _) rfl
  refine Plan.det 13 rfl (Drawn.refl) ?_
  apply Exists.intro
  refine ⟨fun vs x hR hF K hK => ?_, ?_⟩
  · clear hF
    go_simp
    exact hK _ _ (Drawn.refl _) rfl
  refine Plan.det 14 rfl (Drawn.refl) ?_
  apply Exists.intro
  refine ⟨fun vs x hR hF K hK => ?_, ?_⟩
  · have f11 := hF 1 _ _ rfl rfl; have f12 := hF 0 _ _ rfl rfl; clear hF
    go_simp
    exact hK _ _ (Drawn.refl _) rfl
  refine Plan.det 15 rfl (Drawn.refl) ?_
  apply Exists.intro
  refine ⟨fun vs x hR hF K hK => ?_, ?_⟩
  · have f6 := hF 7 _ _ rfl rfl; have f13 := hF 0 _ _ rfl rfl; clear hF
    go_simp
    exact hK _ _ (Drawn.refl _) rfl
  refine Plan.det 16 rfl (Drawn.refl) ?_
  apply Exists.intro
  refine ⟨fun vs x hR hF K hK => ?_, ?_⟩
  · have f5 := hF 9 _ _ rfl rfl; have f14 := hF 0 _ _ rfl rfl; clear hF
    go_simp
    exact hK _ _ (Drawn.refl _) rfl
  refine Plan.nil (fun vs x hR hF => ?_)
  have f0 := hF 15 _ _ rfl; have f1 := hF 14 _ _ rfl; have f2 := hF 13 _ _ rfl; have f3 := hF 12 _ _ rfl; have f4 := hF 11 _ _ rfl; have f5 := hF 10 _ _ rfl; have f6 := hF 9 _ _ rfl; have f7 := hF 8 _ _ rfl; have f8 := hF 7 _ _ rfl; have f9 := hF 6 _ _ rfl; have f10 := hF 5 _ _ rfl; have f11 := hF 4 _ _ rfl; have f12 := hF 3 _ _ rfl; have f13 := hF 2 _ _ rfl; have f14 := hF 1 _ _ rfl; have f15 := hF 0 _ _ rfl
  clear hF
  simp only [f0, f1, f2, f3, f4, f5, f6, f7, f8, f9, f10, f11, f12, f13, f14, f15]
  clear f0 f1 f2 f3 f4 f5 f6 f7 f8 f9 f10 f11 f12 f13 f14 f15
  simp only [List.drop_succ_cons, List.drop_zero]
  have htx := HTX.out x hR
  have HX : Hid (Drawn w1 x) := Drawn.trans ⟨1, rfl⟩ hR
  clear HTX HC hR
  rcases Nat.lt_or_ge 0 cv with hck | hck
  · have dm2 : (ftext.length : Int) ≤ (ftext.length : Int) - 0 := by omega
    have e0 : Option.map (fun a => a.add 0) av = av := by
      rcases hav with rfl | ⟨g, rfl, -⟩
      · rfl
      · simp [Addr.add_lit]
    have hcv2 := txt_part htx 0 ftext.length (by omega) cv
    rw [e0, List.drop_zero, List.take_length] at hcv2
    clear e0
    have HXX := hid htx
    clear htx
    go_wp2_with fail
    all_goals go_ret2
    all_goals exact ⟨rfl, HX.out⟩
  · obtain rfl : cv = 0 := by omega
    have hlk : ftext = [] := List.eq_nil_of_length_eq_zero (by omega)
    subst hlk
    have hcv2 := txt_none (v := av) x 0 rfl
    clear htx
    go_wp2_with fail
    all_goals go_ret2
    all_goals exact ⟨rfl, HX.out⟩
theorem find_own {l : List Ent} (h : (l.map Ent.fl).Pairwise fun f g => (f.name == g.name) = false) (i : Nat) (hi : i < l.length) : l.find? (fun f => f.name == l[i].name) = some l[i] := by
  induction l generalizing i with
  | nil => cases hi
  | cons x l ih =>
    rw [List.map_cons, List.pairwise_cons] at h
    cases i with
    | zero => simp
    | succ i =>
      have hi' : i < l.length := Nat.lt_of_succ_lt_succ hi
      have hx := h.1 (l[i].fl) (List.mem_map_of_mem (List.getElem_mem hi'))
      have hx2 : (x.name == l[i].name) = false := hx
      rw [List.getElem_cons_succ, List.find?_cons, hx2]
      exact ih h.2 i hi'
theorem One.readAll {w0 w : World} {B : Nat} {a : Ab} (h : One w0 B a w) (g : a.good) (hcr : a.crash = false) (hct : a.count = 0) (i : Nat) (hi : i < a.files.length) :
    Calls Try.prog 13 #[.pointer (some ⟨B, 0, none⟩), .string ⟨a.files[i].name.toArray⟩, .int .i64 0, .int .i64 a.files[i].text.length] w fun e w' => e = .returned (.tuple #[.string ⟨a.files[i].text.toArray⟩, .int .i64 0]) ∧ Drawn w w' := by
  have hp := h.apart
  obtain ⟨s, rfl, h1, h2⟩ := h
  have hi2 : i < s.ents.length := by rw [ents_len] at hi; exact hi
  have e : s.ab.files[i] = s.ents[i].fl := List.getElem_map ..
  have hnm := nameOk_short (g.names _ (List.getElem_mem hi))
  have htx := ok_text g.ok (List.getElem_mem hi)
  rw [e] at hnm htx
  rw [e]
  refine Read_calm w B w0.heap.size s ⟨s.ents[i].fl.name.toArray⟩ s.ents[i] h1 hcr hct ?_ (by unfold maxLen; show s.ents[i].fl.name.toArray.size ≤ _; rw [List.size_toArray]; omega) htx
  exact find_own hp i hi2
end Go.Proofs.Ytnncbbfbnccnbaa
