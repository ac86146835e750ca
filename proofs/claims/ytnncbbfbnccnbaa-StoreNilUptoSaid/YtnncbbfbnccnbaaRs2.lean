/- The reference's store: New, Peak, FailAfter, begin, List, Used. -/
import Derived.Test.YtnncbbfbnccnbaaRs
namespace Go.Proofs.Ytnncbbfbnccnbaa
open Go.RowKit
attribute [local go_sem] gives givesUpon

theorem RS.nil_own (w : World) (base : Nat) : OwnR w base (.slice none 0 0) [] := World.ownsRow_nil _ _ _ _
set_option maxHeartbeats 2000000 in
theorem rNew_any (n : Int) (w : World) : Calls Try.prog 15 #[.int .i64 n] w fun e w' => e = .returned (.pointer (some ⟨w.heap.size, 0, none⟩)) ∧ (RS.mk (min (max n 0) 262144) (.slice none 0 0) [] 0 false 0).At w' w.heap.size w.heap.size ∧ Below w.heap.size w w' := by
  go_enter Try.func15, Try.ntmps15
  go_wp2_with fail
  all_goals go_ret
  all_goals
    refine ⟨rfl, ⟨?_, RS.nil_own _ _, by simp⟩, (Below.refl _ w).alloc (Nat.le_refl _) _⟩
    unfold RS.cells
    simp only []
    first
      | (rw [show min (max n 0) 262144 = 0 by omega]; exact Row.new (by simp))
      | (rw [show min (max n 0) 262144 = 262144 by omega]; exact Row.new (by simp))
      | (rw [show min (max n 0) 262144 = n by omega]; exact Row.new (by simp))
      | exact Row.new (by simp)
set_option maxHeartbeats 1000000 in
theorem rPeak_any (w : World) (B base : Nat) (s : RS) (h : s.At w B base) : Calls Try.prog 43 #[.pointer (some ⟨B, 0, none⟩)] w fun e w' => e = .returned (.int .i64 s.peak) ∧ w' = w := by
  have q := Row.five h.row
  go_enter Try.func43, Try.ntmps43
  go_wp2_with fail
  all_goals go_ret
  all_goals exact ⟨rfl, rfl⟩
set_option maxHeartbeats 2000000 in
theorem rFail_any (w : World) (B base : Nat) (s : RS) (n : Int) (h : s.At w B base) : Calls Try.prog 39 #[.pointer (some ⟨B, 0, none⟩), .int .i64 n] w fun e w' => e = .returned (.tuple #[]) ∧ RStep base B s (if s.crash = true then s else { s with count := max n 0 }) w w' := by
  have q := Row.five h.row
  have z := h.row.lt
  have H := hid h
  obtain ⟨limit, v, files, peak, crash, count⟩ := s
  simp only at q
  clear h
  rcases Bool.eq_false_or_eq_true crash with rfl | rfl
  · go_enter Try.func39, Try.ntmps39
    go_wp2_with fail
    try go_quiet (fail)
    go_wp2_with fail
    all_goals go_end0
    all_goals exact ⟨rfl, RStep.refl H.out⟩
  · go_enter Try.func39, Try.ntmps39
    go_wp2_with fail
    try go_quiet (fail)
    go_wp2_with fail
    all_goals go_end0
    all_goals
      refine ⟨rfl, ?_⟩
      have hr := H.out.row.set 4 (.int .i64 (max n 0))
      have := H.out.fields (s' := ⟨limit, v, files, peak, false, max n 0⟩) ((But.refl [B] w).setCell (p := ⟨B, 4, none⟩) (.inl (by simp)) (.int .i64 (max n 0))) hr rfl rfl
      first
        | exact this
        | (rw [show max 0 n = max n 0 by omega]; exact this)
/-- What begin returns. -/
def RS.opened (s : RS) (nm : List UInt8) : Value := if s.began.crash = true then .tuple #[.int .i64 0, .int .i64 19] else if placeOf nm s.files < 0 then .tuple #[.int .i64 0, .int .i64 5] else .tuple #[.int .i64 (placeOf nm s.files), .int .i64 0]
set_option maxHeartbeats 2000000 in
theorem rbegin_any (w : World) (B base : Nat) (s : RS) (nm : ByteArray) (h : s.At w B base) (hc : s.cnt) (hn : s.files.length ≤ 1000000) :
    Calls Try.prog 49 #[.pointer (some ⟨B, 0, none⟩), .string nm] w fun e w' => e = .returned (s.opened nm.data.toList) ∧ RStep base B s s.began w w' := by
  have HF := hid (fails_any w B base s h hc)
  have HPL := hid (fun (w1 : World) (h1 : s.began.At w1 B base) => by
    have := place_any w1 B base s.began nm h1 (by rw [s.began_same.1]; exact hn)
    rw [s.began_same.1] at this
    exact this)
  have HV : Hid (s.opened nm.data.toList = if s.began.crash = true then .tuple #[.int .i64 0, .int .i64 19] else if placeOf nm.data.toList s.files < 0 then .tuple #[.int .i64 0, .int .i64 5] else .tuple #[.int .i64 (placeOf nm.data.toList s.files), .int .i64 0]) := rfl
  clear h hc hn
  generalize s.opened nm.data.toList = ov at *
  generalize placeOf nm.data.toList s.files = pl at *
  generalize s.began = s1 at *
  rcases Bool.eq_false_or_eq_true s1.crash with hcr | hcr
  · have eo : ov = .tuple #[.int .i64 0, .int .i64 19] := by rw [HV.out, if_pos hcr]
    subst eo
    rw [hcr] at HF
    clear HV HPL hcr
    go_enter Try.func49, Try.ntmps49
    go_wp2_with fail
    refine HF.out.mono ?_
    rintro e w1 ⟨rfl, hs1⟩
    have HS := hid hs1
    clear hs1 HF
    go_wp2_with fail
    all_goals go_ret2
    all_goals exact ⟨rfl, HS.out⟩
  · rw [hcr] at HF
    rcases Int.lt_or_le pl 0 with hp | hp
    · have eo : ov = .tuple #[.int .i64 0, .int .i64 5] := by rw [HV.out, if_neg (by simp [hcr]), if_pos hp]
      subst eo
      clear HV hcr
      go_enter Try.func49, Try.ntmps49
      go_wp2_with fail
      refine HF.out.mono ?_
      rintro e w1 ⟨rfl, hs1⟩
      have HS := hid hs1
      clear hs1 HF
      go_wp2_with fail
      refine (HPL.out w1 HS.out.at').mono ?_
      rintro e w2 ⟨rfl, rfl⟩
      clear HPL
      go_wp2_with fail
      all_goals go_ret2
      all_goals exact ⟨rfl, HS.out⟩
    · have eo : ov = .tuple #[.int .i64 pl, .int .i64 0] := by rw [HV.out, if_neg (by simp [hcr]), if_neg (by omega)]
      subst eo
      clear HV hcr
      go_enter Try.func49, Try.ntmps49
      go_wp2_with fail
      refine HF.out.mono ?_
      rintro e w1 ⟨rfl, hs1⟩
      have HS := hid hs1
      clear hs1 HF
      go_wp2_with fail
      refine (HPL.out w1 HS.out.at').mono ?_
      rintro e w2 ⟨rfl, rfl⟩
      clear HPL
      go_wp2_with fail
      all_goals go_ret2
      all_goals exact ⟨rfl, HS.out⟩
def RLPost (s : RS) (w : World) (e : Ending) (w' : World) : Prop := ∃ a c, e = .returned (.slice a s.files.length c) ∧ OwnF w' w.heap.size (.slice a s.files.length c) s.files ∧ Below w.heap.size w w'
theorem OwnR.kept {w w' : World} {base : Nat} {v : Value} {L : List Fl} (h : OwnR w base v L) (hb : Below w.heap.size w w') : OwnR w' base v L := ownsRow_heap h fun g hg => hb.block g (h.lt g hg).2
set_option maxRecDepth 100000 in
set_option maxHeartbeats 4000000 in
theorem rList_any (w : World) (B base : Nat) (s : RS) (h : s.At w B base) (hl : s.files.length ≤ 1000000) (hs : ∀ f, f ∈ s.files → f.text.length ≤ 1000000) : Calls Try.prog 41 #[.pointer (some ⟨B, 0, none⟩)] w (RLPost s w) := by
  have HROW := hid h.row
  have HF := hid h.files
  have HS := hid hs
  have hB := h.row.lt
  obtain ⟨av, cv, hv⟩ := ownsRow_shape h.files
  clear h hs
  have HPP : Hid (∀ (a : Option Addr) (c : Nat) (w' : World), OwnF w' w.heap.size (.slice a s.files.length c) s.files → Below w.heap.size w w' → RLPost s w (.returned (.slice a s.files.length c)) w') := fun a c w' h1 h2 => ⟨a, c, rfl, h1, h2⟩
  generalize RLPost s w = PP at *
  obtain ⟨limit, v, files, peak, crash, count⟩ := s
  simp only at hv HF HS hl HROW HPP
  subst hv
  unfold RS.cells at HROW
  simp only at HROW
  go_enter Try.func41, Try.ntmps41
  go_wp2_with fail
  go_loopw [3, 4] (fun v i wr => ∃ (k : Nat) (a : Option Addr) (c : Nat), k ≤ files.length ∧ v = .slice a k c ∧ i = .int .i64 k ∧ Hid (wr.ownsRow w.heap.size 53 3 (.slice a k c) k ((files.take k).flatMap fcells)) ∧ Hid (Below w.heap.size w wr)) (fun _ i _ => files.length - (intOf i).toNat)
  case atStart => exact ⟨0, none, 0, by omega, rfl, rfl, World.ownsRow_nil _ _ _ _, Below.refl _ _⟩
  case round =>
    obtain ⟨k, a, c, hk, rfl, rfl, HX, HBX⟩ := hrel
    have hwx := HBX.out.size
    have hr0 := HROW.out.below HBX.out hB
    have q := Row.five hr0
    have HR0 := hid hr0
    clear hr0
    rcases Nat.lt_or_ge k files.length with hlt | hge
    · have hF0 := HF.out.kept HBX.out
      obtain ⟨g, cap, hvv, hg⟩ := hF0.form (by omega)
      injection hvv with e1 e2 e3
      subst e1 e3
      have hlen := HS.out _ (List.getElem_mem hlt)
      have htk : files.take (k + 1) = files.take k ++ [files[k]] := by rw [List.take_add_one, List.getElem?_eq_getElem hlt]; rfl
      have HTK := hid htk
      have hkI : (k : Int) < (files.length : Int) := by omega
      have HC := hid (fun (x : World) (hx : Grow wr.drew x) => And.intro (Row.five ((show Row wr.drew B _ _ from HR0.out).below hx HR0.out.lt)) (OwnR.cells (hF0.kept (w' := x) (show Below wr.heap.size wr x from ⟨hx.os, hx.tape, hx.output, hx.size, hx.block⟩)) k hlt))
      clear hF0 htk
      generalize files[k] = f at *
      obtain ⟨fn, ft, fs⟩ := f
      simp only at hlen HC
      have hsz : (⟨ft.toArray⟩ : ByteArray).size = ft.length := by show ft.toArray.size = _; rw [List.size_toArray]
      go_upto_region 7 with fail
      refine wp_region_inv 28 (Grow) (by kernel_rfl) (by kernel_rfl) (Grow.refl) (fun _ _ _ => Grow.trans) ?_
      simp only [fill, dstOf, Act.put, List.take_succ_cons, List.take_zero, List.getElem?_toArray, List.getElem?_cons_zero, List.getElem?_cons_succ, Option.bind_some, List.setIfInBounds_toArray, List.set_cons_zero, List.set_cons_succ]
      refine Plan.det 1 rfl (Grow.refl) ?_
      apply Exists.intro
      refine ⟨fun vs x hR hF K hK => ?_, ?_⟩
      · clear hF
        go_simp
        exact hK _ _ (Grow.refl _) rfl
      refine Plan.det 2 rfl (Grow.refl) ?_
      apply Exists.intro
      refine ⟨fun vs x hR hF K hK => ?_, ?_⟩
      · clear hF
        go_simp
        exact hK _ _ (Grow.refl _) rfl
      refine Plan.det 3 rfl (Grow.refl) ?_
      apply Exists.intro
      refine ⟨fun vs x hR hF K hK => ?_, ?_⟩
      · have f1 := hF 0 _ _ rfl rfl; clear hF
        go_simp
        exact hK _ _ (Grow.refl _) rfl
      refine Plan.det 4 rfl (Grow.refl) ?_
      apply Exists.intro
      refine ⟨fun vs x hR hF K hK => ?_, ?_⟩
      · have f2 := hF 0 _ _ rfl rfl; clear hF
        go_simp
        exact hK _ _ (Grow.refl _) rfl
      refine Plan.det 5 rfl (Grow.refl) ?_
      apply Exists.intro
      refine ⟨fun vs x hR hF K hK => ?_, ?_⟩
      · have f3 := hF 0 _ _ rfl rfl; have hc := HC.out x hR; clear hF
        go_simp
        exact hK _ _ (Grow.refl _) rfl
      refine Plan.det 6 rfl (Grow.refl) ?_
      apply Exists.intro
      refine ⟨fun vs x hR hF K hK => ?_, ?_⟩
      · clear hF
        go_simp
        exact hK _ _ (Grow.refl _) rfl
      refine Plan.det 7 rfl (Grow.refl) ?_
      apply Exists.intro
      refine ⟨fun vs x hR hF K hK => ?_, ?_⟩
      · have f4 := hF 1 _ _ rfl rfl; have f5 := hF 0 _ _ rfl rfl; clear hF
        go_simp
        exact hK _ _ (Grow.refl _) rfl
      refine Plan.det 8 rfl (Grow.refl) ?_
      apply Exists.intro
      refine ⟨fun vs x hR hF K hK => ?_, ?_⟩
      · have f6 := hF 0 _ _ rfl rfl; clear hF
        go_simp
        exact hK _ _ (Grow.refl _) rfl
      refine Plan.det 9 rfl (Grow.refl) ?_
      apply Exists.intro
      refine ⟨fun vs x hR hF K hK => ?_, ?_⟩
      · have f7 := hF 0 _ _ rfl rfl; have hc := HC.out x hR; clear hF
        go_simp
        exact hK _ _ (Grow.refl _) rfl
      refine Plan.det 10 rfl (Grow.refl) ?_
      apply Exists.intro
      refine ⟨fun vs x hR hF K hK => ?_, ?_⟩
      · clear hF
        go_simp
        exact hK _ _ (Grow.refl _) rfl
      refine Plan.det 11 rfl (Grow.refl) ?_
      apply Exists.intro
      refine ⟨fun vs x hR hF K hK => ?_, ?_⟩
      · have f9 := hF 0 _ _ rfl rfl; clear hF
        go_simp
        exact hK _ _ (Grow.refl _) rfl
      refine Plan.det 12 rfl (Grow.refl) ?_
      apply Exists.intro
      refine ⟨fun vs x hR hF K hK => ?_, ?_⟩
      · have f10 := hF 0 _ _ rfl rfl; clear hF
        go_simp
        exact hK _ _ (Grow.refl _) rfl
      refine Plan.det 13 rfl (Grow.refl) ?_
      apply Exists.intro
      refine ⟨fun vs x hR hF K hK => ?_, ?_⟩
      · have f11 := hF 0 _ _ rfl rfl; have hc := HC.out x hR; clear hF
        go_simp
        exact hK _ _ (Grow.refl _) rfl
      refine Plan.det 14 rfl (Grow.refl) ?_
      apply Exists.intro
      refine ⟨fun vs x hR hF K hK => ?_, ?_⟩
      · clear hF
        go_simp
        exact hK _ _ (Grow.refl _) rfl
      refine Plan.det 15 rfl (Grow.refl) ?_
      apply Exists.intro
      refine ⟨fun vs x hR hF K hK => ?_, ?_⟩
      · have f12 := hF 1 _ _ rfl rfl; have f13 := hF 0 _ _ rfl rfl; clear hF
        go_simp
        exact hK _ _ (Grow.refl _) rfl
      refine Plan.det 16 rfl (Grow.refl) ?_
      apply Exists.intro
      refine ⟨fun vs x hR hF K hK => ?_, ?_⟩
      · have f14 := hF 0 _ _ rfl rfl; clear hF
        go_simp
        exact hK _ _ (Grow.refl _) rfl
      refine Plan.det 17 rfl (Grow.refl) ?_
      apply Exists.intro
      refine ⟨fun vs x hR hF K hK => ?_, ?_⟩
      · have f15 := hF 0 _ _ rfl rfl; have hc := HC.out x hR; clear hF
        go_simp
        exact hK _ _ (Grow.refl _) rfl
      refine Plan.det 18 rfl (Grow.refl) ?_
      apply Exists.intro
      refine ⟨fun vs x hR hF K hK => ?_, ?_⟩
      · have f16 := hF 0 _ _ rfl rfl; clear hF
        go_simp
        exact hK _ _ (Grow.refl _) rfl
      refine Plan.det 19 rfl (Grow.refl) ?_
      apply Exists.intro
      refine ⟨fun vs x hR hF K hK => ?_, ?_⟩
      · clear hF
        go_simp
        exact hK _ _ (Grow.refl _) rfl
      refine Plan.det 20 rfl (Grow.refl) ?_
      apply Exists.intro
      refine ⟨fun vs x hR hF K hK => ?_, ?_⟩
      · have f18 := hF 0 _ _ rfl rfl; clear hF
        go_simp
        exact hK _ _ (Grow.refl _) rfl
      refine Plan.det 21 rfl (Grow.refl) ?_
      apply Exists.intro
      refine ⟨fun vs x hR hF K hK => ?_, ?_⟩
      · have f19 := hF 0 _ _ rfl rfl; clear hF
        go_simp
        exact hK _ _ (Grow.refl _) rfl
      refine Plan.det 22 rfl (Grow.refl) ?_
      apply Exists.intro
      refine ⟨fun vs x hR hF K hK => ?_, ?_⟩
      · have f20 := hF 0 _ _ rfl rfl; have hc := HC.out x hR; clear hF
        go_simp
        exact hK _ _ (Grow.refl _) rfl
      refine Plan.det 23 rfl (Grow.refl) ?_
      apply Exists.intro
      refine ⟨fun vs x hR hF K hK => ?_, ?_⟩
      · clear hF
        go_simp
        exact hK _ _ (Grow.refl _) rfl
      refine Plan.det 24 rfl (Grow.refl) ?_
      apply Exists.intro
      refine ⟨fun vs x hR hF K hK => ?_, ?_⟩
      · have f21 := hF 1 _ _ rfl rfl; have f22 := hF 0 _ _ rfl rfl; clear hF
        go_simp
        exact hK _ _ (Grow.refl _) rfl
      refine Plan.det 25 rfl (Grow.refl) ?_
      apply Exists.intro
      refine ⟨fun vs x hR hF K hK => ?_, ?_⟩
      · have f23 := hF 0 _ _ rfl rfl; clear hF
        go_simp
        exact hK _ _ (Grow.refl _) rfl
      refine Plan.det 26 rfl (Grow.refl) ?_
      apply Exists.intro
      refine ⟨fun vs x hR hF K hK => ?_, ?_⟩
      · have f24 := hF 0 _ _ rfl rfl; have hc := HC.out x hR; clear hF
        go_simp
        exact hK _ _ (Grow.refl _) rfl
      refine Plan.det 27 rfl (Grow.refl) ?_
      apply Exists.intro
      refine ⟨fun vs x hR hF K hK => ?_, ?_⟩
      · have f8 := hF 17 _ _ rfl rfl; have f17 := hF 8 _ _ rfl rfl; have f25 := hF 0 _ _ rfl rfl; clear hF
        go_simp
        exact hK _ _ (Grow.refl _) rfl
      refine Plan.rel 28 rfl (Grow.refl) (fun v y => ∃ b' : Nat, v = .slice (some ⟨b', 0, none⟩) 1 1 ∧ Row y b' [.string ⟨fn.toArray⟩, .int .i64 ft.length, .int .i64 fs] 53) (fun v y1 y2 hR ⟨b', h1, h2⟩ => ⟨b', h1, h2.below hR h2.lt⟩) (fun vs x hR hF K hK => ?_) ?_
      · have f26 := hF 0 _ _ rfl rfl
        go_simp
        exact hK _ _ (Grow.alloc _ _) ⟨_, rfl, Row.at _ _ _⟩
      refine Plan.nil (fun vs x hR hF => ?_)
      have f0 := hF 27 _ _ rfl; have f1 := hF 26 _ _ rfl; have f2 := hF 25 _ _ rfl; have f3 := hF 24 _ _ rfl; have f4 := hF 23 _ _ rfl; have f5 := hF 22 _ _ rfl; have f6 := hF 21 _ _ rfl; have f7 := hF 20 _ _ rfl; have f8 := hF 19 _ _ rfl; have f9 := hF 18 _ _ rfl; have f10 := hF 17 _ _ rfl; have f11 := hF 16 _ _ rfl; have f12 := hF 15 _ _ rfl; have f13 := hF 14 _ _ rfl; have f14 := hF 13 _ _ rfl; have f15 := hF 12 _ _ rfl; have f16 := hF 11 _ _ rfl; have f17 := hF 10 _ _ rfl; have f18 := hF 9 _ _ rfl; have f19 := hF 8 _ _ rfl; have f20 := hF 7 _ _ rfl; have f21 := hF 6 _ _ rfl; have f22 := hF 5 _ _ rfl; have f23 := hF 4 _ _ rfl; have f24 := hF 3 _ _ rfl; have f25 := hF 2 _ _ rfl; have f26 := hF 1 _ _ rfl; have f27 := hF 0 _ _ rfl
      clear hF
      simp only [f0, f1, f2, f3, f4, f5, f6, f7, f8, f9, f10, f11, f12, f13, f14, f15, f16, f17, f18, f19, f20, f21, f22, f23, f24, f25, f26]
      clear f0 f1 f2 f3 f4 f5 f6 f7 f8 f9 f10 f11 f12 f13 f14 f15 f16 f17 f18 f19 f20 f21 f22 f23 f24 f25 f26
      simp only [List.drop_succ_cons, List.drop_zero]
      obtain ⟨b', e27, hrow⟩ := f27
      simp only [e27]
      have HBN := hid (HBX.out.trans ((Below.refl _ wr).drew.trans hR |>.mono hwx))
      have hgr : wr.grownBy x none := ⟨hR.os, hR.tape, hR.output, hR.size, fun i hi _ => hR.block i hi⟩
      have HXN := hid (show x.ownsRow w.heap.size 53 3 (.slice a k c) k ((files.take k).flatMap fcells) from HX.out.kept hgr (Classical.em _))
      have hsz2 : ((files.take k).flatMap fcells).length = k * 3 := HXN.out.1
      obtain ⟨i0, hi, hz0, hz1, hz2⟩ := info_parts info_file
      have hwx2 : w.heap.size ≤ x.heap.size := HBN.out.size
      have HROW := hid hrow
      clear hR HC hgr hrow q e27 hsz2
      go_wp2_with (at_builtin; refine wpList_append_row rfl _ _ 48 rfl w.heap.size 53 i0 (.agg #[.string ⟨#[]⟩, .int .i64 0, .int .i64 0]) 3 32 Try.underlying48 hi hz0 hz1 hz2 rfl (by decide) _ k ((files.take k).flatMap fcells) rfl HXN.out ⟨b', 0, none⟩ 1 1 [.string ⟨fn.toArray⟩, .int .i64 ft.length, .int .i64 fs] rfl rfl ?c1 ?c2 ?c3 ?c4 ?c5 (by decide) ?_)
      case c1 =>
        intro j u hj
        rw [HROW.out.cell, hj]
      case c2 => exact ⟨rfl, rfl, rfl⟩
      case c3 => unfold maxLen; omega
      case c4 => omega
      intro a2 c2 w3 hown hgrow hnw
      have HOWN := hid hown
      have HB3 := hid (HBN.out.trans (grown_below hgrow (fun t ht => (HXN.out.lt t ht).1) hwx2))
      clear hown hgrow hnw hi hz0 hz1 hz2
      clear i0
      go_wp2_with fail
      refine ⟨⟨k + 1, a2, c2, by omega, rfl, by go_num, ?_, HB3.out⟩, by simp [intOf]; omega⟩
      rw [HTK.out, List.flatMap_append]
      refine hid ?_
      simpa [fcells] using HOWN.out
    · obtain rfl : k = files.length := by omega
      have HX2 := hid HX.out
      rw [List.take_length] at HX2
      go_wp2_with fail
      exact HPP.out _ _ _ HX2.out HBX.out
theorem rtotal_take (L : List Fl) (k : Nat) (h : k < L.length) : total (L.take (k + 1)) = total (L.take k) + L[k].text.length := by
  rw [List.take_add_one, List.getElem?_eq_getElem h, total_app]
  simp [total]
theorem rtotal_take_le (L : List Fl) (k : Nat) : total (L.take k) ≤ total L := by
  have := total_app (L.take k) (L.drop k)
  rw [List.take_append_drop] at this
  omega
set_option maxRecDepth 100000 in
set_option maxHeartbeats 4000000 in
theorem rUsed_any (w : World) (B base : Nat) (s : RS) (h : s.At w B base) (hl : s.files.length ≤ 1000000) (ht : total s.files ≤ 1000000) : Calls Try.prog 42 #[.pointer (some ⟨B, 0, none⟩)] w fun e w' => e = .returned (.int .i64 (total s.files)) ∧ Below w.heap.size w w' := by
  have HL := hid (rList_any w B base s h hl (fun f hf => by have := total_mem hf; omega))
  clear h
  unfold RLPost at HL
  generalize s.files = files at *
  go_enter Try.func42, Try.ntmps42
  go_wp2_with fail
  refine HL.out.mono ?_
  rintro e w1 ⟨a, c, rfl, hown, hb1⟩
  have HF := hid hown.files
  have HB := hid hb1
  clear hown hb1 HL
  go_wp2_with fail
  go_loopw [3, 5] (fun n i wr => ∃ k : Nat, k ≤ files.length ∧ i = .int .i64 k ∧ n = .int .i64 (total (files.take k)) ∧ wr = w1) (fun _ i _ => files.length - (intOf i).toNat)
  case atStart => exact ⟨0, by omega, rfl, rfl, rfl⟩
  case round =>
    obtain ⟨k, hk, rfl, rfl, rfl⟩ := hrel
    rcases Nat.lt_or_ge k files.length with hlt | hge
    · obtain ⟨b, rfl, hb, hc⟩ : ∃ b, a = some ⟨b, 0, none⟩ ∧ b < wr.heap.size ∧ ∀ i (h : i < files.length), CellsAt wr b (i * 3) (fcells files[i]) := by
        rcases HF.out with h | h
        · rw [h] at hlt; cases hlt
        · exact h
      obtain ⟨c0, c1, c2⟩ := cells3 (hc k hlt)
      have hkI : (k : Int) < (files.length : Int) := by omega
      have htk := rtotal_take files k hlt
      have htl := rtotal_take_le files (k + 1)
      have HTK := hid htk
      have hsm : ((total (files.take k) : Nat) : Int) + (files[k].text.length : Nat) ≤ 1000000 := by omega
      clear hc htk htl
      generalize files[k] = f at *
      go_wp2_with fail
      refine ⟨⟨k + 1, hlt, rfl, ?_, trivial⟩, ?_⟩
      · rw [HTK.out]
        first
          | rfl
          | (show Value.int _ _ = Value.int _ _; congr 1)
      · show files.length - ((k : Int) + 1).toNat < files.length - (k : Int).toNat
        omega
    · obtain rfl : k = files.length := by omega
      have ht2 : files.take files.length = files := List.take_length
      rw [ht2]
      go_wp2_with fail
      all_goals go_ret
      all_goals exact ⟨rfl, HB.out⟩
end Go.Proofs.Ytnncbbfbnccnbaa
