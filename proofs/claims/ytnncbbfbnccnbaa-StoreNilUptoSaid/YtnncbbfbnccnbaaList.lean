/- The program's List. -/
import Derived.Test.YtnncbbfbnccnbaaNames0
import Derived.Test.YtnncbbfbnccnbaaApp
namespace Go.Proofs.Ytnncbbfbnccnbaa
open Go.RowKit Go.Maps Go.Sort
attribute [local go_sem] gives givesUpon

def Grow (x y : World) : Prop := RowKit.Below x.heap.size x y
theorem Grow.refl (x : World) : Grow x x := Below.refl _ x
theorem Grow.trans {x y z : World} (h : Grow x y) (k : Grow y z) : Grow x z := Below.trans h (k.mono h.size)
theorem Grow.alloc (x : World) (o : Obj) : Grow x (x.alloc o) := (Below.refl _ x).alloc (Nat.le_refl _) _
theorem Grow.size {x y : World} (h : Grow x y) : x.heap.size ≤ y.heap.size := Below.size h
/-- The cells of a file in a list. -/
def fcells (f : Fl) : List Value := [.string ⟨f.name.toArray⟩, .int .i64 f.text.length, .int .i64 f.sync]
def OwnF (w : World) (base : Nat) (v : Value) (L : List Fl) : Prop := w.ownsRow base 53 3 v L.length (L.flatMap fcells)
theorem grown_below {w w' : World} {row : Option Nat} {base : Nat} (h : w.grownBy w' row) (hr : ∀ g, row = some g → base ≤ g) (hb : base ≤ w.heap.size) : RowKit.Below base w w' :=
  ⟨h.os, h.tape, h.output, h.size, fun k hk => h.block k (by omega) (fun e => by have := hr k e.symm; omega)⟩
theorem info_file : (Try.prog.info? 53).map (fun i => (i.zero, i.size, i.bytes)) = some (some (.agg #[.string ⟨#[]⟩, .int .i64 0, .int .i64 0]), 3, 32) := by kernel_rfl
def LPost (s : St) (w : World) (e : Ending) (w' : World) : Prop := ∃ a c, e = .returned (.slice a s.ents.length c) ∧ OwnF w' w.heap.size (.slice a s.ents.length c) s.ab.files ∧ Below w.heap.size w w'
set_option maxRecDepth 100000 in
set_option maxHeartbeats 4000000 in
theorem List0_any (w : World) (B base : Nat) (s : St) (h : s.At w B base) (h0 : s.ents = []) : Calls Try.prog 19 #[.pointer (some ⟨B, 0, none⟩)] w (LPost s w) := by
  have HN := hid (names0_any w B base s h h0)
  have HP : Hid (∀ w', Below w.heap.size w w' → LPost s w (.returned (.slice none 0 0)) w') := by
    intro w' hb
    unfold LPost
    refine ⟨none, 0, by rw [h0]; rfl, ?_, hb⟩
    show OwnF w' _ _ (s.ents.map Ent.fl)
    rw [h0]
    exact World.ownsRow_nil _ _ _ _
  clear h h0
  generalize LPost s w = PP at *
  go_enter Try.func19, Try.ntmps19
  go_wp2_with fail
  refine HN.out.mono ?_
  rintro e w1 ⟨rfl, hb1⟩
  have HB := hid hb1
  clear hb1
  go_wp2_with fail
  go_loopw [3, 12] (fun v i wr => v = .slice none 0 0 ∧ i = .int .i64 0 ∧ wr = w1) (fun _ _ _ => 0)
  case atStart => exact ⟨rfl, rfl, rfl⟩
  case round =>
    obtain ⟨rfl, rfl, rfl⟩ := hrel
    go_wp2_with fail
    exact HP.out _ HB.out
set_option maxRecDepth 100000 in
set_option maxHeartbeats 4000000 in
theorem List_any (w : World) (B base : Nat) (s : St) (h : s.At w B base) (hl : s.ents.length ≤ 1000000) (hs : ∀ f, f ∈ s.ents → f.text.length ≤ 1000000) : Calls Try.prog 19 #[.pointer (some ⟨B, 0, none⟩)] w (LPost s w) := by
  rcases Nat.eq_zero_or_pos s.ents.length with h0 | h0
  · exact List0_any w B base s h (List.eq_nil_of_length_eq_zero h0)
  have HN := hid (names_any w B base s h ⟨h0, hl⟩)
  have H := hid h
  have HS := hid hs
  clear h hs
  go_enter Try.func19, Try.ntmps19
  go_wp2_with fail
  refine HN.out.mono ?_
  rintro e w1 ⟨g, cap, rfl, hr1, hb1⟩
  have HR := hid hr1
  have HB := hid hb1
  have hw1 := hb1.size
  clear hb1 hr1 HN
  go_wp2_with fail
  go_loopw [3, 12] (fun v i wr => ∃ (k : Nat) (a : Option Addr) (c : Nat), k ≤ s.ents.length ∧ v = .slice a k c ∧ i = .int .i64 k ∧ Hid (wr.ownsRow w1.heap.size 53 3 (.slice a k c) k (((s.ents.take k).map Ent.fl).flatMap fcells)) ∧ Below w1.heap.size w1 wr) (fun _ i _ => s.ents.length - (intOf i).toNat)
  case atStart => exact ⟨0, none, 0, by omega, rfl, rfl, World.ownsRow_nil _ _ _ _, Below.refl _ _⟩
  case round =>
    obtain ⟨k, a, c, hk, rfl, rfl, HX, hbx⟩ := hrel
    have HBX := hid hbx
    have hwx := hbx.size
    clear hbx
    rcases Nat.lt_or_ge k s.ents.length with hlt | hge
    · have hA := H.out.below (HB.out.trans (HBX.out.mono HB.out.size)) (Nat.le_refl _)
      have hd : s.ents = s.ents.take k ++ s.ents[k] :: s.ents.drop (k + 1) := by rw [← List.drop_eq_getElem_cons hlt, List.take_append_drop]
      have htk : s.ents.take (k + 1) = s.ents.take k ++ [s.ents[k]] := by rw [List.take_add_one, List.getElem?_eq_getElem hlt]; rfl
      have hgl : g < w1.heap.size := (HR.out.lt g rfl).2
      have hnk : wr.cell? ⟨g, k, none⟩ = some (.string ⟨s.ents[k].name.toArray⟩) := by
        have := HR.out.cells (g := g) rfl k (encStr s.ents[k].name) (by simp [hlt])
        rw [Addr.add_lit, Nat.zero_add] at this
        rw [HBX.out.cell (p := ⟨g, k, none⟩) hgl]
        exact this
      have hfm : s.ents[k] ∈ s.ents := List.getElem_mem hlt
      have hlen := HS.out _ hfm
      have hnl := name_le hA hfm
      have hpt : s.ptr ⟨s.ents[k].name.toArray⟩ = some ⟨s.ents[k].blk, 0, none⟩ := by
        have h1 := names_apart hA
        rw [hd] at h1
        have h2 := find_mid h1
        rw [← hd] at h2
        unfold St.ptr St.find
        simp only []
        rw [h2]
        rfl
      have hF := hA.ents _ hfm
      have hlk := hA.look ⟨s.ents[k].name.toArray⟩ (by simpa [ByteArray.size] using hnl)
      rw [hpt] at hlk
      have HTK := hid htk
      clear hd htk hpt hfm hnl
      generalize s.ents[k] = f at *
      obtain ⟨fn, fb, fv, ft, fs⟩ := f
      obtain ⟨av, cv, hvv, hcv, -, -⟩ := hF.txt.form
      simp only at hvv
      subst hvv
      have HF := hid hF
      have q := hA.six
      have qf := Row.two (show Row wr fb [.slice av ft.length cv, .int .i64 fs] _ from hF.row)
      simp only at hlk hnk hlen
      have HC := hid (fun (x : World) (hx : Grow wr.drew x) => Row.two ((show Row wr.drew fb [.slice av ft.length cv, .int .i64 fs] _ from HF.out.row).below hx HF.out.row.lt))
      clear hF hA
      go_upto_region 8 with fail
      refine wp_region_inv 13 (Grow) (by kernel_rfl) (by kernel_rfl) (Grow.refl) (fun _ _ _ => Grow.trans) ?_
      simp only [fill, dstOf, Act.put, List.take_succ_cons, List.take_zero, List.getElem?_toArray, List.getElem?_cons_zero, List.getElem?_cons_succ, Option.bind_some, List.setIfInBounds_toArray, List.set_cons_zero, List.set_cons_succ]
      refine Plan.det 1 rfl (Grow.refl) ?_
      apply Exists.intro
      refine ⟨fun vs x hR hF K hK => ?_, ?_⟩
      · clear hF
        go_simp
        exact hK _ _ (Grow.refl _) rfl
      refine Plan.det 2 rfl (Grow.refl) ?_
      apply Exists.intro
      refine ⟨fun vs x hR hF K hK => ?_, ?_⟩
      · clear hF
        go_simp
        exact hK _ _ (Grow.refl _) rfl
      refine Plan.det 3 rfl (Grow.refl) ?_
      apply Exists.intro
      refine ⟨fun vs x hR hF K hK => ?_, ?_⟩
      · clear hF
        go_simp
        exact hK _ _ (Grow.refl _) rfl
      refine Plan.det 4 rfl (Grow.refl) ?_
      apply Exists.intro
      refine ⟨fun vs x hR hF K hK => ?_, ?_⟩
      · have f2 := hF 0 _ _ rfl rfl; clear hF
        go_simp
        exact hK _ _ (Grow.refl _) rfl
      refine Plan.det 5 rfl (Grow.refl) ?_
      apply Exists.intro
      refine ⟨fun vs x hR hF K hK => ?_, ?_⟩
      · have f3 := hF 0 _ _ rfl rfl; clear hF
        go_simp
        exact hK _ _ (Grow.refl _) rfl
      refine Plan.det 6 rfl (Grow.refl) ?_
      apply Exists.intro
      refine ⟨fun vs x hR hF K hK => ?_, ?_⟩
      · have f4 := hF 0 _ _ rfl rfl; have hc := HC.out x hR; clear hF
        go_simp
        exact hK _ _ (Grow.refl _) rfl
      refine Plan.det 7 rfl (Grow.refl) ?_
      apply Exists.intro
      refine ⟨fun vs x hR hF K hK => ?_, ?_⟩
      · have f5 := hF 0 _ _ rfl rfl; clear hF
        go_simp
        exact hK _ _ (Grow.refl _) rfl
      refine Plan.det 8 rfl (Grow.refl) ?_
      apply Exists.intro
      refine ⟨fun vs x hR hF K hK => ?_, ?_⟩
      · clear hF
        go_simp
        exact hK _ _ (Grow.refl _) rfl
      refine Plan.det 9 rfl (Grow.refl) ?_
      apply Exists.intro
      refine ⟨fun vs x hR hF K hK => ?_, ?_⟩
      · have f7 := hF 0 _ _ rfl rfl; clear hF
        go_simp
        exact hK _ _ (Grow.refl _) rfl
      refine Plan.det 10 rfl (Grow.refl) ?_
      apply Exists.intro
      refine ⟨fun vs x hR hF K hK => ?_, ?_⟩
      · have f8 := hF 0 _ _ rfl rfl; clear hF
        go_simp
        exact hK _ _ (Grow.refl _) rfl
      refine Plan.det 11 rfl (Grow.refl) ?_
      apply Exists.intro
      refine ⟨fun vs x hR hF K hK => ?_, ?_⟩
      · have f9 := hF 0 _ _ rfl rfl; have hc := HC.out x hR; clear hF
        go_simp
        exact hK _ _ (Grow.refl _) rfl
      refine Plan.det 12 rfl (Grow.refl) ?_
      apply Exists.intro
      refine ⟨fun vs x hR hF K hK => ?_, ?_⟩
      · have f1 := hF 9 _ _ rfl rfl; have f6 := hF 4 _ _ rfl rfl; have f10 := hF 0 _ _ rfl rfl; clear hF
        go_simp
        exact hK _ _ (Grow.refl _) rfl
      refine Plan.rel 13 rfl (Grow.refl) (fun v y => ∃ b' : Nat, v = .slice (some ⟨b', 0, none⟩) 1 1 ∧ Row y b' [.string ⟨fn.toArray⟩, .int .i64 ft.length, .int .i64 fs] 53) (fun v y1 y2 hR ⟨b', h1, h2⟩ => ⟨b', h1, h2.below hR h2.lt⟩) (fun vs x hR hF K hK => ?_) ?_
      · have f11 := hF 0 _ _ rfl rfl
        go_simp
        exact hK _ _ (Grow.alloc _ _) ⟨_, rfl, Row.at _ _ _⟩
      refine Plan.nil (fun vs x hR hF => ?_)
      have f0 := hF 12 _ _ rfl; have f1 := hF 11 _ _ rfl; have f2 := hF 10 _ _ rfl; have f3 := hF 9 _ _ rfl; have f4 := hF 8 _ _ rfl; have f5 := hF 7 _ _ rfl; have f6 := hF 6 _ _ rfl; have f7 := hF 5 _ _ rfl; have f8 := hF 4 _ _ rfl; have f9 := hF 3 _ _ rfl; have f10 := hF 2 _ _ rfl; have f11 := hF 1 _ _ rfl; have f12 := hF 0 _ _ rfl
      clear hF
      simp only [f0, f1, f2, f3, f4, f5, f6, f7, f8, f9, f10, f11]
      clear f0 f1 f2 f3 f4 f5 f6 f7 f8 f9 f10 f11
      simp only [List.drop_succ_cons, List.drop_zero]
      obtain ⟨b', e12, hrow⟩ := f12
      simp only [e12]
      have HBN := hid (HBX.out.trans ((Below.refl _ wr).drew.trans hR |>.mono hwx))
      have hgr : wr.grownBy x none := ⟨hR.os, hR.tape, hR.output, hR.size, fun i hi _ => hR.block i hi⟩
      have HXN := hid (show x.ownsRow w1.heap.size 53 3 (.slice a k c) k (((s.ents.take k).map Ent.fl).flatMap fcells) from HX.out.kept hgr (Classical.em _))
      have hsz2 : (((s.ents.take k).map Ent.fl).flatMap fcells).length = k * 3 := HXN.out.1
      obtain ⟨i0, hi, hz0, hz1, hz2⟩ := info_parts info_file
      have hwx2 : w1.heap.size ≤ x.heap.size := HBN.out.size
      have HROW := hid hrow
      clear hR HC hgr hrow q qf hlk hnk e12 hsz2
      go_wp2_with (at_builtin; refine wpList_append_row rfl _ _ 48 rfl w1.heap.size 53 i0 (.agg #[.string ⟨#[]⟩, .int .i64 0, .int .i64 0]) 3 32 Try.underlying48 hi hz0 hz1 hz2 rfl (by decide) _ k (((s.ents.take k).map Ent.fl).flatMap fcells) rfl HXN.out ⟨b', 0, none⟩ 1 1 [.string ⟨fn.toArray⟩, .int .i64 ft.length, .int .i64 fs] rfl rfl ?c1 ?c2 ?c3 ?c4 ?c5 (by decide) ?_)
      case c1 =>
        intro j u hj
        rw [HROW.out.cell, hj]
      case c2 => exact ⟨rfl, rfl, rfl⟩
      case c3 => unfold maxLen; omega
      case c4 => omega
      intro a2 c2 w3 hown hgrow hnw
      have HOWN := hid hown
      have HB3 := hid (HBN.out.trans (grown_below hgrow (fun t ht => (HXN.out.lt t ht).1) hwx2))
      clear hown hgrow hnw hi hz0 hz1 hz2
      clear i0
      go_wp2_with fail
      refine ⟨⟨k + 1, a2, c2, by omega, rfl, by go_num, ?_, HB3.out⟩, by simp [intOf]; omega⟩
      rw [HTK.out, List.map_append, List.flatMap_append]
      refine hid ?_
      simpa [fcells, Ent.fl] using HOWN.out
    · obtain rfl : k = s.ents.length := by omega
      go_wp2_with fail
      go_ret
      have hx := HX.out
      rw [List.take_length] at hx
      refine ⟨a, c, rfl, ?_, HB.out.trans (HBX.out.mono hw1)⟩
      show World.ownsRow _ _ _ _ _ (s.ents.map Ent.fl).length _
      rw [List.length_map]
      exact ownsRow_base hx hw1
end Go.Proofs.Ytnncbbfbnccnbaa
