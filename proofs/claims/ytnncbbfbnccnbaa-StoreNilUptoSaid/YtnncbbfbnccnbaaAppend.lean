/- The program's Append. -/
import Derived.Test.YtnncbbfbnccnbaaAb
import Derived.Deep.DeepCutAuto
import Derived.Deep.CutBlock
namespace Go.Proofs.Ytnncbbfbnccnbaa
open Go.RowKit
attribute [local go_sem] gives givesUpon

theorem St.At.drewN {w : World} {B base : Nat} {s : St} (h : s.At w B base) (n : Nat) : s.At (w.drewN n) B base := h.kept fun _ _ => rfl
theorem Step.drewN {w w' : World} {B base : Nat} {s s' : St} (h : Step base B s s' w w') (n : Nat) : Step base B s s' w (w'.drewN n) :=
  h.trans ⟨h.at'.drewN n, ⟨rfl, rfl, rfl, Nat.le_refl _, fun _ _ _ => rfl⟩, fun _ hk => .inl hk⟩
theorem grown_but {w w' : World} {row : Option Nat} {S : List Nat} (h : w.grownBy w' row) (hS : ∀ k, row = some k → k ∈ S) : But S w w' :=
  ⟨h.os, h.tape, h.output, h.size, fun k hk hn => h.block k hk (fun e => hn (hS k e.symm))⟩
theorem info_u8 : (Try.prog.info? 5).map (fun i => (i.zero, i.size, i.bytes)) = some (some (.int .u8 0), 1, 1) := by kernel_rfl
/-- What an operation leaves that hands back an error's number. -/
def APost (base B : Nat) (s : St) (res : Int × Ab) (w : World) (e : Ending) (w' : World) : Prop :=
  ∃ s', e = .returned (.int .i64 res.1) ∧ s'.ab = res.2 ∧ Step base B s s' w w'
theorem BA_len (tx : ByteArray) : tx.data.toList.length = tx.size := by rw [Array.length_toList]; rfl

set_option maxRecDepth 100000 in
set_option maxHeartbeats 4000000 in
theorem Append_any (w : World) (B base : Nat) (s : St) (nm tx : ByteArray) (h : s.At w B base) (ok : s.ab.ok) (hn : nm.size ≤ maxLen) (ht : tx.size ≤ 1000000000) (hbase : base ≤ w.heap.size) :
    Calls Try.prog 12 #[.pointer (some ⟨B, 0, none⟩), .string nm, .string tx] w (APost base B s (s.ab.append nm.data.toList tx.data.toList) w) := by
  have HO := hid (open_any w B base s nm h ok.count hn)
  have hob := ok.began
  rw [← St.ab_began] at hob
  have HP : Hid (s.ab.append nm.data.toList tx.data.toList = if s.began.crash = true then ((19 : Int), s.began.ab) else match s.began.find nm with
      | none => (5, s.began.ab)
      | some _ => if s.began.limit < s.began.used + tx.size then (12, s.began.ab) else
        (0, { s.began.ab with used := s.began.used + tx.size, peak := max s.began.peak (s.began.used + tx.size), files := upd nm.data.toList (fun f => { f with text := f.text ++ tx.data.toList }) s.began.ab.files })) := by
    show _ = _
    unfold Ab.append
    rw [← St.ab_began, St.find_ab, BA_len]
    cases s.began.find nm <;> rfl
  have HOV : Hid (s.opened nm = if s.began.crash = true then .tuple #[.pointer none, .int .i64 19] else match s.began.find nm with | none => .tuple #[.pointer none, .int .i64 5] | some f => .tuple #[.pointer (some ⟨f.blk, 0, none⟩), .int .i64 0]) := by
    show _ = _
    rw [St.began_find]; rfl
  generalize s.ab.append nm.data.toList tx.data.toList = res at *
  generalize s.opened nm = ov at *
  generalize s.began = s1 at *
  have HOK := hid hob
  clear h hob ok
  rcases Bool.eq_false_or_eq_true s1.crash with hcr | hcr
  · have eo : ov = .tuple #[.pointer none, .int .i64 19] := by rw [HOV.out, if_pos hcr]
    have er : res = (19, s1.ab) := by rw [HP.out, if_pos hcr]
    subst eo
    have HE := hid er
    clear HP HOV er hcr
    go_enter Try.func12, Try.ntmps12
    go_wp2_with fail
    refine HO.out.mono ?_
    rintro e w1 ⟨rfl, hs1⟩
    have HS := hid hs1
    clear hs1 HO
    go_wp2_with fail
    all_goals go_ret
    all_goals exact ⟨s1, by rw [HE.out]; rfl, by rw [HE.out], HS.out⟩
  · cases hf : s1.find nm with
    | none =>
      have eo : ov = .tuple #[.pointer none, .int .i64 5] := by rw [HOV.out, if_neg (by simp [hcr]), hf]
      have er : res = (5, s1.ab) := by rw [HP.out, if_neg (by simp [hcr]), hf]
      subst eo
      have HE := hid er
      clear HP HOV er hcr hf
      go_enter Try.func12, Try.ntmps12
      go_wp2_with fail
      refine HO.out.mono ?_
      rintro e w1 ⟨rfl, hs1⟩
      have HS := hid hs1
      clear hs1 HO
      go_wp2_with fail
      all_goals go_ret
      all_goals exact ⟨s1, by rw [HE.out]; rfl, by rw [HE.out], HS.out⟩
    | some f =>
      have eo : ov = .tuple #[.pointer (some ⟨f.blk, 0, none⟩), .int .i64 0] := by rw [HOV.out, if_neg (by simp [hcr]), hf]
      have er : res = if s1.limit < s1.used + tx.size then (12, s1.ab) else
        (0, { s1.ab with used := s1.used + tx.size, peak := max s1.peak (s1.used + tx.size), files := upd nm.data.toList (fun f => { f with text := f.text ++ tx.data.toList }) s1.ab.files }) := by rw [HP.out, if_neg (by simp [hcr]), hf]
      subst eo
      have HE := hid er
      have HF := hid (St.find_split hf)
      clear HP HOV er hcr hf
      have hlim : s1.used ≤ s1.limit ∧ s1.limit ≤ 262144 := HOK.out.limit
      have hus : s1.used = total s1.ab.files := HOK.out.used
      have hu0 : 0 ≤ s1.used := by omega
      have hul : s1.used ≤ 262144 := by omega
      have hpk : s1.used ≤ s1.peak ∧ s1.peak ≤ s1.limit := HOK.out.peak
      have HUS := hid hus
      clear hus
      rcases Decidable.em (s1.limit < s1.used + tx.size) with hl | hl
      · have HE2 : Hid (res = (12, s1.ab)) := by show _ = _; rw [HE.out, if_pos hl]
        clear HE
        go_enter Try.func12, Try.ntmps12
        go_wp2_with fail
        refine HO.out.mono ?_
        rintro e w1 ⟨rfl, hs1⟩
        have HS := hid hs1
        clear hs1 HO
        have q := HS.out.at'.six
        go_wp2_with fail
        go_quiet (fail)
        go_wp2_with fail
        all_goals go_ret
        all_goals exact ⟨s1, by rw [HE2.out]; rfl, by rw [HE2.out], HS.out.drewN _⟩
      · have HE2 : Hid (res = (0, { s1.ab with used := s1.used + tx.size, peak := max s1.peak (s1.used + tx.size), files := upd nm.data.toList (fun f => { f with text := f.text ++ tx.data.toList }) s1.ab.files })) := by show _ = _; rw [HE.out, if_neg hl]
        clear HE
        have hl2 : s1.used + tx.size ≤ s1.limit := by omega
        clear hl
        obtain ⟨hfn, l1, l2, hsp, hl1⟩ := HF.out
        have hfm : f ∈ s1.ents := by rw [hsp]; simp
        have htl : f.text.length ≤ 262144 := by
          have h1 : f.fl ∈ s1.ab.files := List.mem_map_of_mem hfm
          have h2 := total_mem h1
          have h3 := HUS.out
          have h4 : f.fl.text.length = f.text.length := rfl
          omega
        have HSP := hid hsp
        have HFM := hid hfm
        have HF2 : Hid ((f.name == nm.data.toList) = true ∧ ∀ x, x ∈ l1 → (x.name == nm.data.toList) = false) := ⟨hfn, hl1⟩
        clear hsp hfm hfn hl1
        go_enter Try.func12, Try.ntmps12
        go_wp2_with fail
        refine HO.out.mono ?_
        rintro e w1 ⟨rfl, hs1⟩
        have HS := hid hs1
        clear hs1 HO
        have q := HS.out.at'.six
        have hF := HS.out.at'.ents f HFM.out
        have qf := hF.row.two
        have HTX := hid hF.txt
        obtain ⟨i0, hi, hz0, hz1, hz2⟩ := info_parts info_u8
        clear hF
        go_wp2_with fail
        go_quiet (fail)
        go_wp2_with (at_builtin; refine wpList_append_txt rfl _ _ 61 9 rfl i0 Try.underlying61 Try.underlying9 hi hz0 hz1 hz2 rfl (HTX.out.kept (fun _ _ => rfl)) tx rfl (by omega) ?_)
        intro v' w2 ht2 hg2 hn2
        obtain ⟨av, cv, hvv, -⟩ := ht2.form
        generalize (f.text ++ tx.data.toList).length = nv at hvv
        subst hvv
        have hF := HS.out.at'.ents f HFM.out
        have htb : ∀ g, f.val.ownBlock = some g → g ≠ f.blk := hF.txt.ne_row hF.row (by decide)
        have htB : ∀ g, f.val.ownBlock = some g → g ≠ B := hF.txt.ne_row HS.out.at'.row (by decide)
        have hfB : f.blk ≠ B := fun e => absurd ((e ▸ hF.row).same_type HS.out.at'.row) (by decide)
        have hbt := grown_but (S := f.blk :: f.val.ownBlock.toList) hg2 (fun k hk => by rw [hk]; simp)
        have hbt1 : But (f.blk :: f.val.ownBlock.toList) w1 w2 := ⟨hbt.os, hbt.tape, hbt.output, hbt.size, hbt.block⟩
        have hr2 : Row w2 f.blk [f.val, .int .i64 f.sync] 63 := (hg2.block f.blk hF.row.lt (fun e => htb _ e.symm rfl)).trans hF.row
        have hR2 : Row w2 B s1.cells 47 := (hg2.block B HS.out.at'.row.lt (fun e => htB _ e.symm rfl)).trans HS.out.at'.row
        have htx3 : Txt 5 (w2.setCell ⟨f.blk, 0, none⟩ (.slice av nv cv)) (.slice av nv cv) (f.text ++ tx.data.toList) := ht2.kept fun g hg => Below.heap_setCell _ _ _ _ (by
          intro e
          have e2 : g = f.blk := e
          rcases hn2 g hg with h1 | h1
          · exact htb g h1 e2
          · have := hF.row.lt; omega)
        have hst2 := HS.out.at'.file (f' := ⟨f.name, f.blk, .slice av nv cv, f.text ++ tx.data.toList, f.sync⟩) HSP.out (hbt1.setCell (p := ⟨f.blk, 0, none⟩) (.inl (by simp)) (.slice av nv cv)) (fun k hk => by
          rcases List.mem_cons.1 hk with h1 | h1
          · exact .inl h1
          · exact .inr (by simpa using h1)) (hr2.set 0 (.slice av nv cv)) htx3 rfl rfl hn2 (by have := HS.out.but.size; omega)
        have hst3 := hst2.trans (hst2.at'.fields (s' := ⟨s1.limit, s1.used + tx.size, s1.peak, s1.mp, l1 ++ ⟨f.name, f.blk, .slice av nv cv, f.text ++ tx.data.toList, f.sync⟩ :: l2, s1.crash, s1.count⟩) ((But.refl [B] _).setCell (p := ⟨B, 1, none⟩) (.inl (by simp)) (.int .i64 (s1.used + tx.size))) (hst2.at'.row.set 1 _) rfl rfl)
        have q2 := hr2.two
        have q3 := Row.six hR2
        have z2 := hr2.lt
        have z3 := hR2.lt
        have hBf : B ≠ f.blk := Ne.symm hfB
        have HST3 := hid hst3
        clear hst2 hst3 htx3 hbt hbt1 htb htB hF hg2 ht2 hn2 hr2 hR2 q qf HTX
        clear hi hz0 hz1 hz2
        clear i0
        go_upto_region 8 with fail
        generalize ((w2.setCell ⟨f.blk, 0, none⟩ (.slice av nv cv)).setCell ⟨B, 1, none⟩ (.int .i64 (s1.used + tx.size))) = y at HST3 ⊢
        clear q2 q3 z2 z3
        have HC := hid (fun (x : World) (hx : Below y.heap.size y.drew x) => Row.six ((show Row y.drew B (St.cells _) _ from HST3.out.at'.row).below hx HST3.out.at'.row.lt))
        have z4 := HST3.out.at'.row.lt
        refine wp_region_inv 12 (Below y.heap.size) (by kernel_rfl) (by kernel_rfl) (Below.refl _) (fun _ _ _ => Below.trans) ?_
        simp only [fill, dstOf, Act.put, List.take_succ_cons, List.take_zero, List.getElem?_toArray, List.getElem?_cons_zero, List.getElem?_cons_succ, Option.bind_some, List.setIfInBounds_toArray, List.set_cons_zero, List.set_cons_succ]
        refine Plan.det 1 rfl (Below.refl _) ?_
        apply Exists.intro
        refine ⟨fun vs x hR hF K hK => ?_, ?_⟩
        · clear hF
          go_simp
          exact hK _ _ (Below.refl _ _) rfl
        refine Plan.det 2 rfl (Below.refl _) ?_
        apply Exists.intro
        refine ⟨fun vs x hR hF K hK => ?_, ?_⟩
        · clear hF
          go_simp
          exact hK _ _ (Below.refl _ _) rfl
        refine Plan.det 3 rfl (Below.refl _) ?_
        apply Exists.intro
        refine ⟨fun vs x hR hF K hK => ?_, ?_⟩
        · have f1 := hF 0 _ _ rfl rfl; clear hF
          go_simp
          exact hK _ _ (Below.refl _ _) rfl
        refine Plan.det 4 rfl (Below.refl _) ?_
        apply Exists.intro
        refine ⟨fun vs x hR hF K hK => ?_, ?_⟩
        · have f2 := hF 0 _ _ rfl rfl; clear hF
          go_simp
          exact hK _ _ (Below.refl _ _) rfl
        refine Plan.det 5 rfl (Below.refl _) ?_
        apply Exists.intro
        refine ⟨fun vs x hR hF K hK => ?_, ?_⟩
        · have f3 := hF 0 _ _ rfl rfl; have hc := HC.out x hR; clear hF
          go_simp
          exact hK _ _ (Below.refl _ _) rfl
        refine Plan.det 6 rfl (Below.refl _) ?_
        apply Exists.intro
        refine ⟨fun vs x hR hF K hK => ?_, ?_⟩
        · clear hF
          go_simp
          exact hK _ _ (Below.refl _ _) rfl
        refine Plan.det 7 rfl (Below.refl _) ?_
        apply Exists.intro
        refine ⟨fun vs x hR hF K hK => ?_, ?_⟩
        · have f5 := hF 0 _ _ rfl rfl; clear hF
          go_simp
          exact hK _ _ (Below.refl _ _) rfl
        refine Plan.det 8 rfl (Below.refl _) ?_
        apply Exists.intro
        refine ⟨fun vs x hR hF K hK => ?_, ?_⟩
        · have f6 := hF 0 _ _ rfl rfl; clear hF
          go_simp
          exact hK _ _ (Below.refl _ _) rfl
        refine Plan.det 9 rfl (Below.refl _) ?_
        apply Exists.intro
        refine ⟨fun vs x hR hF K hK => ?_, ?_⟩
        · have f7 := hF 0 _ _ rfl rfl; have hc := HC.out x hR; clear hF
          go_simp
          exact hK _ _ (Below.refl _ _) rfl
        refine Plan.det 10 rfl (Below.refl _) ?_
        apply Exists.intro
        refine ⟨fun vs x hR hF K hK => ?_, ?_⟩
        · have f4 := hF 4 _ _ rfl rfl; have f8 := hF 0 _ _ rfl rfl; clear hF
          go_simp
          exact hK _ _ (Below.refl _ _) rfl
        refine Plan.det 11 rfl (Below.refl _) ?_
        apply Exists.intro
        refine ⟨fun vs x hR hF K hK => ?_, ?_⟩
        · have f0 := hF 9 _ _ rfl rfl; have f1 := hF 8 _ _ rfl rfl; have f2 := hF 7 _ _ rfl rfl; have f3 := hF 6 _ _ rfl rfl; have f4 := hF 5 _ _ rfl rfl; have f5 := hF 4 _ _ rfl rfl; have f6 := hF 3 _ _ rfl rfl; have f7 := hF 2 _ _ rfl rfl; have f8 := hF 1 _ _ rfl rfl; have f9 := hF 0 _ _ rfl rfl; clear hF
          go_simp
          exact hK _ _ (Below.refl _ _) rfl
        refine Plan.det 12 rfl (Below.refl _) ?_
        apply Exists.intro
        refine ⟨fun vs x hR hF K hK => ?_, ?_⟩
        · have f0 := hF 10 _ _ rfl rfl; have f1 := hF 9 _ _ rfl rfl; have f2 := hF 8 _ _ rfl rfl; have f3 := hF 7 _ _ rfl rfl; have f4 := hF 6 _ _ rfl rfl; have f5 := hF 5 _ _ rfl rfl; have f6 := hF 4 _ _ rfl rfl; have f7 := hF 3 _ _ rfl rfl; have f8 := hF 2 _ _ rfl rfl; have f9 := hF 1 _ _ rfl rfl; have f10 := hF 0 _ _ rfl rfl; clear hF
          go_simp
          exact hK _ _ (Below.refl _ _) rfl
        refine Plan.nil (fun vs x hR hF => ?_)
        have f0 := hF 11 _ _ rfl; have f1 := hF 10 _ _ rfl; have f2 := hF 9 _ _ rfl; have f3 := hF 8 _ _ rfl; have f4 := hF 7 _ _ rfl; have f5 := hF 6 _ _ rfl; have f6 := hF 5 _ _ rfl; have f7 := hF 4 _ _ rfl; have f8 := hF 3 _ _ rfl; have f9 := hF 2 _ _ rfl; have f10 := hF 1 _ _ rfl; have f11 := hF 0 _ _ rfl
        clear hF
        simp only [f0, f1, f2, f3, f4, f5, f6, f7, f8, f9, f10, f11]
        clear f0 f1 f2 f3 f4 f5 f6 f7 f8 f9 f10 f11
        simp only [List.drop_succ_cons, List.drop_zero]
        have HX : Hid (Step base B s1 _ w1 x) := (HST3.out.trans ⟨HST3.out.at'.kept (w' := y.drew) (fun k _ => rfl), ⟨rfl, rfl, rfl, Nat.le_refl _, fun _ _ _ => rfl⟩, fun _ hk => .inl hk⟩).more hR (Nat.le_refl _)
        have q5 := Row.six (show Row x B [.int .i64 s1.limit, .int .i64 (s1.used + tx.size), .int .i64 s1.peak, .map (some s1.mp), .bool s1.crash, .int .i64 s1.count] _ from HX.out.at'.row)
        have z5 := HX.out.at'.row.lt
        clear hR HC HST3 z4
        go_wp2_with fail
        all_goals go_ret
        all_goals
          have hfin : ∀ pk : Int, pk = max s1.peak (s1.used + tx.size) → APost base B s res w (.returned (.int .i64 0)) (x.setCell ⟨B, 2, none⟩ (.int .i64 pk)) := by
            intro pk hpk2
            refine ⟨⟨s1.limit, s1.used + tx.size, pk, s1.mp, l1 ++ ⟨f.name, f.blk, .slice av nv cv, f.text ++ tx.data.toList, f.sync⟩ :: l2, s1.crash, s1.count⟩, by rw [HE2.out], ?_, ?_⟩
            · rw [HE2.out, hpk2]
              obtain ⟨hfn, hl1'⟩ := HF2.out
              have e1 : s1.ab.files = l1.map Ent.fl ++ f.fl :: l2.map Ent.fl := by
                show s1.ents.map Ent.fl = _
                rw [HSP.out, List.map_append, List.map_cons]
              have e2 := upd_at nm.data.toList (fun f => { f with text := f.text ++ tx.data.toList }) (l1.map Ent.fl) f.fl (l2.map Ent.fl) (fun y hy => by
                obtain ⟨z, hz, rfl⟩ := List.mem_map.1 hy
                exact hl1' z hz) hfn
              rw [← e1] at e2
              rw [e2]
              show Ab.mk _ _ _ ((l1 ++ _ :: l2).map Ent.fl) _ _ = _
              rw [List.map_append, List.map_cons]
              rfl
            · have hst := HX.out.at'.fields (s' := ⟨s1.limit, s1.used + tx.size, pk, s1.mp, l1 ++ ⟨f.name, f.blk, .slice av nv cv, f.text ++ tx.data.toList, f.sync⟩ :: l2, s1.crash, s1.count⟩) ((But.refl [B] _).setCell (p := ⟨B, 2, none⟩) (.inl (by simp)) (.int .i64 pk)) (HX.out.at'.row.set 2 _) rfl rfl
              exact HS.out.trans (HX.out.trans hst)
          exact hfin _ (by omega)
end Go.Proofs.Ytnncbbfbnccnbaa
