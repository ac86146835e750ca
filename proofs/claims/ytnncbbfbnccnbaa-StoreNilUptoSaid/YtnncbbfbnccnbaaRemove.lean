/- The program's drop, Remove, FailAfter. -/
import Derived.Test.YtnncbbfbnccnbaaRestart
namespace Go.Proofs.Ytnncbbfbnccnbaa
open Go.RowKit Go.Maps Go.Sort
attribute [local go_sem] gives givesUpon

theorem ownsMap_tight {w : World} {M n : Nat} {D : DataW Unit} (h : w.ownsMap Try.prog 9 ptrElem M n D) : w.ownsMap Try.prog 9 ptrElem M (Maps.size D) D := by
  obtain ⟨es, c, hb, F, hs, rfl⟩ := h
  refine ⟨es, c, hb, F, ?_, rfl⟩
  rw [Maps.size_eq, length_read]
  exact Nat.le_refl _
/-- A file with the same block, under whatever name. -/
def Ent.like (g f : Ent) : Prop := g.blk = f.blk ∧ g.val = f.val ∧ g.text = f.text ∧ g.sync = f.sync
theorem Ent.like.own {g f : Ent} (h : g.like f) : g.own = f.own := by unfold Ent.own; rw [h.1, h.2.1]
theorem Ent.like.at' {g f : Ent} {w : World} {base : Nat} (h : g.like f) (k : f.At w base) : g.At w base := by
  obtain ⟨h1, h2, h3, h4⟩ := h
  exact ⟨by rw [h1, h2, h4]; exact k.row, by rw [h2, h3]; exact k.txt, by rw [h1]; exact k.lo, by rw [h2]; exact k.tlo⟩
/-- The map alone is changed: the files are among those that were there. -/
theorem St.At.remap {w w' : World} {B base n : Nat} {s : St} {L : List Ent} (h : s.At w B base) (hg : w.grownBy w' (some s.mp)) (hm : w'.ownsMap Try.prog 9 ptrElem s.mp n (toD L)) (hl : ∀ g, g ∈ L → ∃ f, f ∈ s.ents ∧ g.like f) (ha : L.Pairwise Ent.apart) :
    Step base B s { s with ents := L } w w' := by
  have hk : ∀ k, k < w.heap.size → k ≠ s.mp → w'.heap[k]? = w.heap[k]? := fun k hk hn => hg.block k hk (fun e => hn (by injection e))
  refine ⟨⟨(hk B h.row.lt (Ne.symm (map_ne_row h.map h.row))).trans h.row, ?_, fun g hgm => ?_, ha, h.lo⟩, grown_but hg (fun k hk => by injection hk with hk; subst hk; unfold St.own; simp), fun k hko => .inl ?_⟩
  · have := ownsMap_tight hm
    rw [size_toD] at this
    exact this
  · obtain ⟨f, hf, hlk⟩ := hl g hgm
    have hF := h.ents f hf
    refine hlk.at' (hF.kept fun k hkf => hk k (hF.blocks k hkf).2 fun e => ?_)
    subst e
    unfold Ent.own at hkf
    rcases List.mem_cons.1 hkf with e | hkf
    · exact map_ne_row h.map hF.row e
    · cases hv : f.val.ownBlock with
      | none => rw [hv] at hkf; cases hkf
      | some t =>
        rw [hv] at hkf
        obtain rfl : s.mp = t := by simpa using hkf
        exact hF.txt.ne_map h.map _ hv rfl
  · unfold St.own at hko ⊢
    simp only [List.mem_cons, List.mem_flatMap] at hko ⊢
    rcases hko with h1 | h1 | ⟨g, hgm, h1⟩
    · exact .inl h1
    · exact .inr (.inl h1)
    · obtain ⟨f, hf, hlk⟩ := hl g hgm
      exact .inr (.inr ⟨f, hf, by rw [← hlk.own]; exact h1⟩)
theorem del_toD (nm : List UInt8) (l : List Ent) : (toD l).del (.string nm) = toD (l.filter fun f => !(f.name == nm)) := by
  unfold toD DataW.del
  simp only
  congr 1
  induction l with
  | nil => rfl
  | cons x l ih =>
    simp only [List.map_cons, List.filter_cons]
    have e : (x.item.1.sameKey (.string nm)) = (x.name == nm) := rfl
    rw [e]
    cases (x.name == nm) with
    | true => exact ih
    | false => simp only [Bool.not_false, if_true, List.map_cons]; rw [ih]
def Ab.dropped (a : Ab) (nm : List UInt8) : Ab := match a.find nm with
  | none => a
  | some f => { a with used := a.used - f.text.length, files := a.files.filter fun f => !(f.name == nm) }
theorem filter_fl (nm : List UInt8) : ∀ l : List Ent, (l.filter fun f => !(f.name == nm)).map Ent.fl = (l.map Ent.fl).filter fun f => !(f.name == nm)
  | [] => rfl
  | x :: l => by
    simp only [List.map_cons, List.filter_cons]
    have ih := filter_fl nm l
    have e : (x.fl.name == nm) = (x.name == nm) := rfl
    rw [e]
    cases (x.name == nm) with
    | true => simpa using ih
    | false => simpa using ih

def St.dropped (s : St) (nm : ByteArray) : St := match s.find nm with
  | none => s
  | some f => { s with used := s.used - f.text.length, ents := s.ents.filter fun f => !(f.name == nm.data.toList) }
theorem St.ab_dropped (s : St) (nm : ByteArray) : (s.dropped nm).ab = s.ab.dropped nm.data.toList := by
  unfold St.dropped Ab.dropped
  rw [St.find_ab]
  cases s.find nm with
  | none => rfl
  | some f =>
    show Ab.mk _ _ _ ((s.ents.filter _).map Ent.fl) _ _ = _
    rw [filter_fl]
    rfl
set_option maxRecDepth 100000 in
set_option maxHeartbeats 4000000 in
theorem drop_any (w : World) (B base : Nat) (s : St) (nm : ByteArray) (h : s.At w B base) (ok : s.ab.ok) (hn : nm.size ≤ maxLen) :
    Calls Try.prog 45 #[.pointer (some ⟨B, 0, none⟩), .string nm] w fun e w' => e = .returned (.tuple #[]) ∧ Step base B s (s.dropped nm) w w' := by
  have q := h.six
  have hlk := h.look nm hn
  have H := hid h
  have hu : s.used ≤ 262144 := by have := ok.limit; have h1 : s.ab.used = s.used := rfl; omega
  have hus : s.used = total s.ab.files := ok.used
  have HD : Hid (s.dropped nm = match s.find nm with | none => s | some f => { s with used := s.used - f.text.length, ents := s.ents.filter fun f => !(f.name == nm.data.toList) }) := rfl
  cases hf : s.find nm with
  | none =>
    have hpt : s.ptr nm = none := by unfold St.ptr; rw [hf]; rfl
    rw [hpt] at hlk
    rw [hf] at HD
    generalize s.dropped nm = res at *
    clear hf hpt h ok hus
    go_enter Try.func45, Try.ntmps45
    go_wp2_with fail
    go_end0
    refine ⟨rfl, ?_⟩
    rw [HD.out]
    exact Step.refl H.out
  | some f =>
    have hpt : s.ptr nm = some ⟨f.blk, 0, none⟩ := by unfold St.ptr; rw [hf]; rfl
    rw [hpt] at hlk
    rw [hf] at HD
    generalize s.dropped nm = res at *
    obtain ⟨hfn, l1, l2, hsp, hl1⟩ := St.find_split hf
    have hfm : f ∈ s.ents := by rw [hsp]; simp
    have htl : f.text.length ≤ 262144 := by
      have h1 : f.fl ∈ s.ab.files := List.mem_map_of_mem hfm
      have h2 := total_mem h1
      have h4 : f.fl.text.length = f.text.length := rfl
      omega
    have HUS := hid hus
    have hu0 : 0 ≤ s.used := by omega
    clear hf hpt ok hus hsp hl1 hfn
    obtain ⟨fn, fb, fv, ft, fs⟩ := f
    simp only at htl HD
    have hF := h.ents _ hfm
    obtain ⟨av, cv, hvv, hcv, -, -⟩ := hF.txt.form
    simp only at hvv
    subst hvv
    have HF := hid hF
    have qf := Row.two (show Row w fb [.slice av ft.length cv, .int .i64 fs] _ from hF.row)
    clear hF hfm h
    go_enter Try.func45, Try.ntmps45
    go_wp2_with fail
    have HC := hid (fun (x : World) (hx : Below w.heap.size w.drew x) => And.intro (Row.six ((show Row w.drew B [.int .i64 s.limit, .int .i64 s.used, .int .i64 s.peak, .map (some s.mp), .bool s.crash, .int .i64 s.count] _ from H.out.row).below hx H.out.row.lt)) (Row.two ((show Row w.drew fb [.slice av ft.length cv, .int .i64 fs] _ from HF.out.row).below hx HF.out.row.lt)))
    refine wp_region_inv 12 (Below w.heap.size) (by kernel_rfl) (by kernel_rfl) (Below.refl _) (fun _ _ _ => Below.trans) ?_
    simp only [fill, dstOf, Act.put, List.take_succ_cons, List.take_zero, List.getElem?_toArray, List.getElem?_cons_zero, List.getElem?_cons_succ, Option.bind_some, List.setIfInBounds_toArray, List.set_cons_zero, List.set_cons_succ]
    refine Plan.det 1 rfl (Below.refl _) ?_
    apply Exists.intro
    refine ⟨fun vs x hR hF K hK => ?_, ?_⟩
    · clear hF
      go_simp
      exact hK _ _ (Below.refl _ _) rfl
    refine Plan.det 2 rfl (Below.refl _) ?_
    apply Exists.intro
    refine ⟨fun vs x hR hF K hK => ?_, ?_⟩
    · have f0 := hF 0 _ _ rfl rfl; clear hF
      go_simp
      exact hK _ _ (Below.refl _ _) rfl
    refine Plan.det 3 rfl (Below.refl _) ?_
    apply Exists.intro
    refine ⟨fun vs x hR hF K hK => ?_, ?_⟩
    · have f1 := hF 0 _ _ rfl rfl; clear hF
      go_simp
      exact hK _ _ (Below.refl _ _) rfl
    refine Plan.det 4 rfl (Below.refl _) ?_
    apply Exists.intro
    refine ⟨fun vs x hR hF K hK => ?_, ?_⟩
    · have f2 := hF 0 _ _ rfl rfl; have hc := HC.out x hR; clear hF
      go_simp
      exact hK _ _ (Below.refl _ _) rfl
    refine Plan.det 5 rfl (Below.refl _) ?_
    apply Exists.intro
    refine ⟨fun vs x hR hF K hK => ?_, ?_⟩
    · clear hF
      go_simp
      exact hK _ _ (Below.refl _ _) rfl
    refine Plan.det 6 rfl (Below.refl _) ?_
    apply Exists.intro
    refine ⟨fun vs x hR hF K hK => ?_, ?_⟩
    · have f4 := hF 0 _ _ rfl rfl; clear hF
      go_simp
      exact hK _ _ (Below.refl _ _) rfl
    refine Plan.det 7 rfl (Below.refl _) ?_
    apply Exists.intro
    refine ⟨fun vs x hR hF K hK => ?_, ?_⟩
    · have f5 := hF 0 _ _ rfl rfl; clear hF
      go_simp
      exact hK _ _ (Below.refl _ _) rfl
    refine Plan.det 8 rfl (Below.refl _) ?_
    apply Exists.intro
    refine ⟨fun vs x hR hF K hK => ?_, ?_⟩
    · have f6 := hF 0 _ _ rfl rfl; have hc := HC.out x hR; clear hF
      go_simp
      exact hK _ _ (Below.refl _ _) rfl
    refine Plan.det 9 rfl (Below.refl _) ?_
    apply Exists.intro
    refine ⟨fun vs x hR hF K hK => ?_, ?_⟩
    · have f7 := hF 0 _ _ rfl rfl; clear hF
      go_simp
      exact hK _ _ (Below.refl _ _) rfl
    refine Plan.det 10 rfl (Below.refl _) ?_
    apply Exists.intro
    refine ⟨fun vs x hR hF K hK => ?_, ?_⟩
    · have f3 := hF 5 _ _ rfl rfl; have f8 := hF 0 _ _ rfl rfl; clear hF
      go_simp
      exact hK _ _ (Below.refl _ _) rfl
    refine Plan.det 11 rfl (Below.refl _) ?_
    apply Exists.intro
    refine ⟨fun vs x hR hF K hK => ?_, ?_⟩
    · have f0 := hF 9 _ _ rfl rfl; have f1 := hF 8 _ _ rfl rfl; have f2 := hF 7 _ _ rfl rfl; have f3 := hF 6 _ _ rfl rfl; have f4 := hF 5 _ _ rfl rfl; have f5 := hF 4 _ _ rfl rfl; have f6 := hF 3 _ _ rfl rfl; have f7 := hF 2 _ _ rfl rfl; have f8 := hF 1 _ _ rfl rfl; have f9 := hF 0 _ _ rfl rfl; clear hF
      go_simp
      exact hK _ _ (Below.refl _ _) rfl
    refine Plan.det 12 rfl (Below.refl _) ?_
    apply Exists.intro
    refine ⟨fun vs x hR hF K hK => ?_, ?_⟩
    · have f0 := hF 10 _ _ rfl rfl; have f1 := hF 9 _ _ rfl rfl; have f2 := hF 8 _ _ rfl rfl; have f3 := hF 7 _ _ rfl rfl; have f4 := hF 6 _ _ rfl rfl; have f5 := hF 5 _ _ rfl rfl; have f6 := hF 4 _ _ rfl rfl; have f7 := hF 3 _ _ rfl rfl; have f8 := hF 2 _ _ rfl rfl; have f9 := hF 1 _ _ rfl rfl; have f10 := hF 0 _ _ rfl rfl; clear hF
      go_simp
      exact hK _ _ (Below.refl _ _) rfl
    refine Plan.nil (fun vs x hR hF => ?_)
    have f0 := hF 11 _ _ rfl; have f1 := hF 10 _ _ rfl; have f2 := hF 9 _ _ rfl; have f3 := hF 8 _ _ rfl; have f4 := hF 7 _ _ rfl; have f5 := hF 6 _ _ rfl; have f6 := hF 5 _ _ rfl; have f7 := hF 4 _ _ rfl; have f8 := hF 3 _ _ rfl; have f9 := hF 2 _ _ rfl; have f10 := hF 1 _ _ rfl; have f11 := hF 0 _ _ rfl
    clear hF
    simp only [f0, f1, f2, f3, f4, f5, f6, f7, f8, f9, f10, f11]
    clear f0 f1 f2 f3 f4 f5 f6 f7 f8 f9 f10 f11
    simp only [List.drop_succ_cons, List.drop_zero]
    have HX := hid (((Step.refl H.out).trans ⟨H.out.kept (w' := w.drew) (fun _ _ => rfl), ⟨rfl, rfl, rfl, Nat.le_refl _, fun _ _ _ => rfl⟩, fun _ hk => .inl hk⟩).more hR (Nat.le_refl _))
    have hst := HX.out.trans (HX.out.at'.fields (s' := ⟨s.limit, s.used - ft.length, s.peak, s.mp, s.ents, s.crash, s.count⟩) ((But.refl [B] x).setCell (p := ⟨B, 1, none⟩) (.inl (by simp)) (.int .i64 (s.used - ft.length))) (HX.out.at'.row.set 1 _) rfl rfl)
    have q5 := HX.out.at'.six
    have z5 := HX.out.at'.row.lt
    have HST := hid hst
    clear hst hR HC HX q qf hlk
    go_upto_region 3 with fail
    generalize (x.setCell ⟨B, 1, none⟩ (.int .i64 (s.used - ft.length))) = y at HST ⊢
    clear q5 z5
    have q6 := HST.out.at'.six
    simp only at q6
    go_wp2_with (at_delete; refine wpList_delete_own _ rfl _ _ 45 9 rfl 60 strK Try.underlying45 ptrElem s.mp s.ents.length (toD s.ents) rfl HST.out.at'.map _ _ rfl (Go.WideMaps.keyOf_string_mk Try.underlying9 hn) ?_; intro w3 hown3 hturn3)
    rw [del_toD] at hown3
    have hst3 := HST.out.trans (HST.out.at'.remap hturn3.grown hown3 (fun g hg => ⟨g, (List.mem_filter.1 hg).1, rfl, rfl, rfl, rfl⟩) (HST.out.at'.apart.filter _))
    have HST3 := hid hst3
    clear hst3 hown3 hturn3 q6
    go_wp2_with fail
    go_end0
    refine ⟨rfl, ?_⟩
    rw [HD.out]
    exact HST3.out

set_option maxHeartbeats 2000000 in
theorem FailAfter_any (w : World) (B base : Nat) (s : St) (n : Int) (h : s.At w B base) : Calls Try.prog 23 #[.pointer (some ⟨B, 0, none⟩), .int .i64 n] w fun e w' => e = .returned (.tuple #[]) ∧ Step base B s (if s.crash = true then s else { s with count := max n 0 }) w w' := by
  have q := h.six
  have z := h.row.lt
  have H := hid h
  rcases Bool.eq_false_or_eq_true s.crash with hc | hc
  · rw [hc] at q
    have HC : Hid (s.crash = true) := hc
    clear hc h
    generalize hs : (if s.crash = true then s else { s with count := max n 0 }) = s2
    have HS2 : Hid (s2 = s) := by show _ = _; rw [← hs, if_pos HC.out]
    clear hs
    go_enter Try.func23, Try.ntmps23
    go_wp2_with fail
    all_goals go_end0
    all_goals
      refine ⟨rfl, ?_⟩
      rw [HS2.out]
      exact Step.refl H.out
  · rw [hc] at q
    have HC : Hid (s.crash = false) := hc
    clear hc h
    generalize hs : (if s.crash = true then s else { s with count := max n 0 }) = s2
    have HS2 : Hid (s2 = { s with count := max n 0 }) := by show _ = _; rw [← hs, if_neg (by rw [HC.out]; simp)]
    clear hs
    go_enter Try.func23, Try.ntmps23
    go_wp2_with fail
    all_goals go_end0
    all_goals
      refine ⟨rfl, ?_⟩
      rw [HS2.out]
      have key : ∀ c : Int, c = max n 0 → Step base B s { s with count := max n 0 } w (w.setCell ⟨B, 5, none⟩ (.int .i64 c)) := by
        intro c hc2
        rw [hc2]
        exact H.out.fields ((But.refl [B] w).setCell (p := ⟨B, 5, none⟩) (.inl (by simp)) _) (H.out.row.set 5 _) rfl rfl
      exact key _ (by omega)
end Go.Proofs.Ytnncbbfbnccnbaa
