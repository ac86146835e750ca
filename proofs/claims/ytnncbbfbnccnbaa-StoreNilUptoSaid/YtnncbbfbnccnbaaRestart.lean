/- The program's Restart. -/
import Derived.Test.YtnncbbfbnccnbaaNames
import Derived.Test.YtnncbbfbnccnbaaRead
namespace Go.Proofs.Ytnncbbfbnccnbaa
open Go.RowKit Go.Maps Go.Sort
attribute [local go_sem] gives givesUpon

/-- The byte of a number that says how many bytes a file keeps. -/
def kb (kept i : Nat) : Nat := kept / 2 ^ (8 * (i % 8)) % 256
/-- How many bytes a file keeps. -/
def keep (n sy b : Nat) : Nat := sy + min b (n - sy)
def rst (kept i : Nat) (f : Fl) : Fl := ⟨f.name, f.text.take (keep f.text.length f.sync.toNat (kb kept i)), keep f.text.length f.sync.toNat (kb kept i)⟩
def rsts (kept : Nat) : Nat → List Fl → List Fl
  | _, [] => []
  | i, f :: fs => rst kept i f :: rsts kept (i + 1) fs
def Ab.restart (a : Ab) (kept : Nat) : Ab := { a with used := total (rsts kept 0 a.files), files := rsts kept 0 a.files, crash := false, count := 0 }
theorem own_same (av : Option Addr) (a b c d : Nat) : (Value.slice av a b).ownBlock = (Value.slice av c d).ownBlock := by cases av <;> rfl
theorem rsts_snoc (kept : Nat) : ∀ (l : List Fl) (i : Nat) (f : Fl), rsts kept i (l ++ [f]) = rsts kept i l ++ [rst kept (i + l.length) f]
  | [], i, f => rfl
  | x :: l, i, f => by
    simp only [List.cons_append, rsts, List.length_cons]
    rw [rsts_snoc kept l (i + 1) f, show i + 1 + l.length = i + (l.length + 1) by omega]
theorem total_app : ∀ (a b : List Fl), total (a ++ b) = total a + total b
  | [], b => by simp [total]
  | x :: a, b => by simp only [List.cons_append, total]; rw [total_app a b]; omega
theorem rsts_total (kept : Nat) : ∀ (l : List Fl) (i : Nat), total (rsts kept i l) ≤ total l
  | [], _ => Nat.le_refl _
  | x :: l, i => by
    have h1 := rsts_total kept l (i + 1)
    simp only [rsts, total, rst, List.length_take]
    omega
theorem names_apart {w : World} {B base : Nat} {s : St} (h : s.At w B base) : s.ents.Pairwise (fun a b => (a.name == b.name) = false) := by
  obtain ⟨es, he, hp⟩ := h.map.tidy strK
  have e : es = s.ents.map Ent.item := by
    unfold toD at he
    injection he with he
    exact he.symm
  subst e
  rw [List.pairwise_map] at hp
  refine hp.imp fun {a b} hab => ?_
  rw [beq_eq_false_iff_ne]
  intro e
  exact hab (by unfold Ent.item; rw [e])
theorem name_le {w : World} {B base : Nat} {s : St} (h : s.At w B base) {f : Ent} (hf : f ∈ s.ents) : f.name.length ≤ maxLen := by
  refine strKeys_le h.map Try.underlying9 f.name ?_
  rw [strKeys_toD]
  exact List.mem_map_of_mem hf
theorem find_mid {L1 L2 : List Ent} {f : Ent} (h : (L1 ++ f :: L2).Pairwise (fun a b => (a.name == b.name) = false)) : (L1 ++ f :: L2).find? (fun x => x.name == f.name) = some f := by
  rw [List.find?_append]
  have h1 : L1.find? (fun x => x.name == f.name) = none := by
    rw [List.find?_eq_none]
    intro x hx
    rw [List.pairwise_append] at h
    have := h.2.2 x hx f (by simp)
    simp [this]
  rw [h1]
  simp
theorem Txt.cut2 {e : TypeId} {w : World} {av : Option Addr} {n cv : Nat} {bs : List UInt8} (h : Txt e w (.slice av n cv) bs) (k : Nat) (hk : k ≤ bs.length) : Txt e w (.slice av k k) (bs.take k) := by
  obtain ⟨a, c0, hv, hc, -, ha⟩ := h.form
  injection hv with e1 e2 e3
  subst e1 e2 e3
  rcases ha with rfl | ⟨g, rfl, hg⟩
  · have hb : bs = [] := by
      rcases h with ⟨-, hb⟩ | ⟨g, cap, cur, hv, -⟩
      · exact hb
      · cases hv
    subst hb
    obtain rfl : k = 0 := by simpa using hk
    exact Txt.nil _ _
  · exact h.cut k k hk (Nat.le_refl _) (by omega)
theorem kb_eq (kept k : Nat) : wrap64 (((kept : Int) / 2 ^ (8 * (k % 8))).tmod 256) = (kb kept k : Int) := by
  have e1 : ((2 : Int) ^ (8 * (k % 8))) = ((2 ^ (8 * (k % 8)) : Nat) : Int) := by norm_cast
  have e2 : (((kept : Int) / 2 ^ (8 * (k % 8))).tmod 256) = ((kb kept k : Nat) : Int) := by
    rw [e1, ← Int.natCast_ediv]
    rfl
  rw [e2]
  have h : kb kept k < 256 := Nat.mod_lt _ (by decide)
  unfold wrap64
  omega
/-- What Restart leaves. -/
def RsPost (base B : Nat) (s : St) (a : Ab) (w : World) (e : Ending) (w' : World) : Prop := ∃ s', e = .returned (.tuple #[]) ∧ s'.ab = a ∧ Step base B s s' w w'

set_option maxRecDepth 100000 in
set_option maxHeartbeats 4000000 in
theorem Restart_any (w : World) (B base : Nat) (s : St) (kept : Nat) (h : s.At w B base) (ok : s.ab.ok) (hl : 1 ≤ s.ents.length ∧ s.ents.length ≤ 1000000) (hbase : base ≤ w.heap.size) :
    Calls Try.prog 25 #[.pointer (some ⟨B, 0, none⟩), .int .u64 kept] w (RsPost base B s (s.ab.restart kept) w) := by
  have q := h.six
  have z := h.row.lt
  have hst := h.fields (s' := ⟨s.limit, s.used, s.peak, s.mp, s.ents, false, 0⟩) (((But.refl [B] w).setCell (p := ⟨B, 4, none⟩) (.inl (by simp)) (.bool false)).setCell (p := ⟨B, 5, none⟩) (.inl (by simp)) (.int .i64 0)) ((h.row.set 4 (.bool false)).set 5 (.int .i64 0)) rfl rfl
  have HST := hid hst
  have HOK := hid ok
  have hul : s.used ≤ 262144 := by have := ok.limit; have h1 : s.ab.used = s.used := rfl; omega
  have HUL := hid hul
  clear hst ok hul
  go_enter Try.func25, Try.ntmps25
  go_wp2_with fail
  generalize ((w.setCell ⟨B, 4, none⟩ (.bool false)).setCell ⟨B, 5, none⟩ (.int .i64 0)) = y at HST ⊢
  clear q z
  refine (names_any y B base _ HST.out.at' hl).mono ?_
  rintro e w1 ⟨g, cap, rfl, hr1, hb1⟩
  have HN := hid hr1
  have HB1 := hid hb1
  have HS1 := hid (HST.out.more hb1 (Nat.le_refl _))
  clear hr1 hb1 HST
  go_wp2_with fail
  go_loopw [20] (fun i wr => ∃ (k : Nat) (L1 : List Ent), k ≤ s.ents.length ∧ i = .int .i64 k ∧ Hid (L1.map Ent.fl = rsts kept 0 ((s.ents.take k).map Ent.fl)) ∧ Hid (Step base B s ⟨s.limit, total ((L1 ++ s.ents.drop k).map Ent.fl), s.peak, s.mp, L1 ++ s.ents.drop k, false, 0⟩ w wr) ∧ Hid (wr.heap[g]? = w1.heap[g]?)) (fun i _ => s.ents.length - (intOf i).toNat)
  case atStart =>
    refine ⟨0, [], by omega, rfl, rfl, ?_, rfl⟩
    have e : (⟨s.limit, total (([] ++ s.ents.drop 0).map Ent.fl), s.peak, s.mp, [] ++ s.ents.drop 0, false, 0⟩ : St) = ⟨s.limit, s.used, s.peak, s.mp, s.ents, false, 0⟩ := by
      have h1 : s.used = total (s.ents.map Ent.fl) := HOK.out.used
      simp [h1]
    rw [e]
    exact HS1.out
  case round =>
    obtain ⟨k, L1, hk, rfl, HL, HS, HG⟩ := hrel
    rcases Nat.lt_or_ge k s.ents.length with hlt | hge
    · have hd : s.ents.drop k = s.ents[k] :: s.ents.drop (k + 1) := List.drop_eq_getElem_cons hlt
      have htk : s.ents.take (k + 1) = s.ents.take k ++ [s.ents[k]] := by rw [List.take_add_one, List.getElem?_eq_getElem hlt]; rfl
      have hnk : wr.cell? ⟨g, k, none⟩ = some (.string ⟨s.ents[k].name.toArray⟩) := by
        have := HN.out.cells (g := g) rfl k (encStr s.ents[k].name) (by simp [hlt])
        rw [Addr.add_lit, Nat.zero_add] at this
        rw [World.cell?_of_block (a := ⟨g, k, none⟩) HG.out]
        exact this
      have hfs : s.ents[k].fl ∈ s.ab.files := List.mem_map_of_mem (List.getElem_mem hlt)
      have hsy := HOK.out.sync _ hfs
      have htot : (total (s.ents.map Ent.fl) : Int) = s.used := HOK.out.used.symm
      have hftl := total_mem hfs
      have HSPL : Hid (total (s.ents.map Ent.fl) = total ((s.ents.take k).map Ent.fl) + (s.ents[k].text.length + total ((s.ents.drop (k + 1)).map Ent.fl))) := by
        show _ = _
        have e : s.ents.map Ent.fl = (s.ents.take k).map Ent.fl ++ (s.ents[k].fl :: (s.ents.drop (k + 1)).map Ent.fl) := by rw [← List.map_cons, ← hd, ← List.map_append, List.take_append_drop]
        conv => lhs; rw [e]
        rw [total_app, total]
        rfl
      rw [hd] at HS
      generalize hfk : s.ents[k] = f at *
      have HTK := hid htk
      have HFK := hid hfk
      clear hd htk hfs hfk
      obtain ⟨fn, fb, fv, ft, fs⟩ := f
      obtain ⟨sy, rfl⟩ : ∃ n : Nat, fs = n := ⟨fs.toNat, by have : 0 ≤ fs := hsy.1; omega⟩
      have hsy2 : sy ≤ ft.length := by have : (sy : Int) ≤ ft.length := hsy.2; omega
      have hflen : ft.length ≤ 262144 := by
        have h1 : ft.length ≤ total (s.ents.map Ent.fl) := hftl
        have := HUL.out
        omega
      clear hsy hftl
      generalize hL2 : s.ents.drop (k + 1) = L2 at *
      have HL2 := hid hL2
      clear hL2
      have hfm : (⟨fn, fb, fv, ft, sy⟩ : Ent) ∈ L1 ++ ⟨fn, fb, fv, ft, sy⟩ :: L2 := by simp
      have hF := HS.out.at'.ents _ hfm
      obtain ⟨av, cv, hvv, hcv, -, -⟩ := hF.txt.form
      simp only at hvv
      subst hvv
      have hlk := HS.out.at'.look ⟨fn.toArray⟩ (by have := name_le HS.out.at' hfm; simpa [ByteArray.size] using this)
      have hpt : St.ptr ⟨s.limit, total ((L1 ++ ⟨fn, fb, .slice av ft.length cv, ft, sy⟩ :: L2).map Ent.fl), s.peak, s.mp, L1 ++ ⟨fn, fb, .slice av ft.length cv, ft, sy⟩ :: L2, false, 0⟩ ⟨fn.toArray⟩ = some ⟨fb, 0, none⟩ := by
        have h1 := find_mid (names_apart HS.out.at')
        unfold St.ptr St.find
        simp only [] at h1 ⊢
        rw [h1]
        rfl
      rw [hpt] at hlk
      simp only at hlk hnk
      have HF := hid hF
      have htt : total ((L1 ++ ⟨fn, fb, .slice av ft.length cv, ft, sy⟩ :: L2).map Ent.fl) = total (L1.map Ent.fl) + ft.length + total (L2.map Ent.fl) := by
        rw [List.map_append, List.map_cons, total_app, total]; show _ = _; simp [Ent.fl]; omega
      have HTT := hid htt
      have hbig : total ((L1 ++ ⟨fn, fb, .slice av ft.length cv, ft, sy⟩ :: L2).map Ent.fl) ≤ 262144 := by
        have h1 : total (L1.map Ent.fl) ≤ total ((s.ents.take k).map Ent.fl) := by rw [HL.out]; exact rsts_total kept _ _
        have h2 : total (s.ents.map Ent.fl) = total ((s.ents.take k).map Ent.fl) + (ft.length + total (L2.map Ent.fl)) := HSPL.out
        have h3 := HUL.out
        omega
      have HU := hid (rfl : (total ((L1 ++ ⟨fn, fb, .slice av ft.length cv, ft, sy⟩ :: L2).map Ent.fl) : Nat) = total ((L1 ++ ⟨fn, fb, .slice av ft.length cv, ft, sy⟩ :: L2).map Ent.fl))
      have q := HS.out.at'.six
      have qf := Row.two (show Row wr fb [.slice av ft.length cv, .int .i64 sy] _ from hF.row)
      clear hF hfm hpt htt htot
      simp only at q
      generalize total ((L1 ++ ⟨fn, fb, .slice av ft.length cv, ft, sy⟩ :: L2).map Ent.fl) = u at *
      have hkb : kb kept k < 256 := Nat.mod_lt _ (by decide)
      have hke := kb_eq kept k
      go_upto_region 7 with fail
      simp only [hke]
      generalize hbb : kb kept k = b at *
      have HBB := hid hbb
      clear hbb hke
      -- THE CASES
      have hwr : IntKind.i64.wrap ((ft.length : Int) - sy) = ft.length - sy := IntWalk.i64_in _ (by omega)
      have hz : (sy : Int) + min (b : Int) ((ft.length : Int) - sy) = (keep ft.length sy b : Nat) := by unfold keep; omega
      generalize hzk : keep ft.length sy b = z at *
      have HZK := hid hzk
      have hz1 : z ≤ ft.length := by rw [← hzk]; unfold keep; omega
      have hz0 : (0 : Int) ≤ z := by omega
      clear hzk
      have HC7 := hid (fun (x : World) (hx : Below wr.heap.size wr.drew x) => Row.two ((show Row wr.drew fb [.slice av ft.length cv, .int .i64 sy] _ from HF.out.row).below hx HF.out.row.lt))
      refine wp_region_inv 16 (Below wr.heap.size) (by kernel_rfl) (by kernel_rfl) (Below.refl _) (fun _ _ _ => Below.trans) ?_
      simp only [fill, dstOf, Act.put, List.take_succ_cons, List.take_zero, List.getElem?_toArray, List.getElem?_cons_zero, List.getElem?_cons_succ, Option.bind_some, List.setIfInBounds_toArray, List.set_cons_zero, List.set_cons_succ]
      refine Plan.det 1 rfl (Below.refl _) ?_
      apply Exists.intro
      refine ⟨fun vs x hR hF K hK => ?_, ?_⟩
      · clear hF
        go_simp
        exact hK _ _ (Below.refl _ _) rfl
      refine Plan.det 2 rfl (Below.refl _) ?_
      apply Exists.intro
      refine ⟨fun vs x hR hF K hK => ?_, ?_⟩
      · have f0 := hF 0 _ _ rfl rfl; clear hF
        go_simp
        exact hK _ _ (Below.refl _ _) rfl
      refine Plan.det 3 rfl (Below.refl _) ?_
      apply Exists.intro
      refine ⟨fun vs x hR hF K hK => ?_, ?_⟩
      · have f1 := hF 0 _ _ rfl rfl; clear hF
        go_simp
        exact hK _ _ (Below.refl _ _) rfl
      refine Plan.det 4 rfl (Below.refl _) ?_
      apply Exists.intro
      refine ⟨fun vs x hR hF K hK => ?_, ?_⟩
      · have f2 := hF 0 _ _ rfl rfl; have hc := HC7.out x hR; clear hF
        go_simp
        exact hK _ _ (Below.refl _ _) rfl
      refine Plan.det 5 rfl (Below.refl _) ?_
      apply Exists.intro
      refine ⟨fun vs x hR hF K hK => ?_, ?_⟩
      · clear hF
        go_simp
        exact hK _ _ (Below.refl _ _) rfl
      refine Plan.det 6 rfl (Below.refl _) ?_
      apply Exists.intro
      refine ⟨fun vs x hR hF K hK => ?_, ?_⟩
      · clear hF
        go_simp
        exact hK _ _ (Below.refl _ _) rfl
      refine Plan.det 7 rfl (Below.refl _) ?_
      apply Exists.intro
      refine ⟨fun vs x hR hF K hK => ?_, ?_⟩
      · have f5 := hF 0 _ _ rfl rfl; clear hF
        go_simp
        exact hK _ _ (Below.refl _ _) rfl
      refine Plan.det 8 rfl (Below.refl _) ?_
      apply Exists.intro
      refine ⟨fun vs x hR hF K hK => ?_, ?_⟩
      · have f6 := hF 0 _ _ rfl rfl; clear hF
        go_simp
        exact hK _ _ (Below.refl _ _) rfl
      refine Plan.det 9 rfl (Below.refl _) ?_
      apply Exists.intro
      refine ⟨fun vs x hR hF K hK => ?_, ?_⟩
      · have f7 := hF 0 _ _ rfl rfl; have hc := HC7.out x hR; clear hF
        go_simp
        exact hK _ _ (Below.refl _ _) rfl
      refine Plan.det 10 rfl (Below.refl _) ?_
      apply Exists.intro
      refine ⟨fun vs x hR hF K hK => ?_, ?_⟩
      · have f8 := hF 0 _ _ rfl rfl; clear hF
        go_simp
        exact hK _ _ (Below.refl _ _) rfl
      refine Plan.det 11 rfl (Below.refl _) ?_
      apply Exists.intro
      refine ⟨fun vs x hR hF K hK => ?_, ?_⟩
      · clear hF
        go_simp
        exact hK _ _ (Below.refl _ _) rfl
      refine Plan.det 12 rfl (Below.refl _) ?_
      apply Exists.intro
      refine ⟨fun vs x hR hF K hK => ?_, ?_⟩
      · have f10 := hF 0 _ _ rfl rfl; clear hF
        go_simp
        exact hK _ _ (Below.refl _ _) rfl
      refine Plan.det 13 rfl (Below.refl _) ?_
      apply Exists.intro
      refine ⟨fun vs x hR hF K hK => ?_, ?_⟩
      · have f11 := hF 0 _ _ rfl rfl; clear hF
        go_simp
        exact hK _ _ (Below.refl _ _) rfl
      refine Plan.det 14 rfl (Below.refl _) ?_
      apply Exists.intro
      refine ⟨fun vs x hR hF K hK => ?_, ?_⟩
      · have f12 := hF 0 _ _ rfl rfl; have hc := HC7.out x hR; clear hF
        go_simp
        exact hK _ _ (Below.refl _ _) rfl
      refine Plan.det 15 rfl (Below.refl _) ?_
      apply Exists.intro
      refine ⟨fun vs x hR hF K hK => ?_, ?_⟩
      · have f9 := hF 4 _ _ rfl rfl; have f13 := hF 0 _ _ rfl rfl; clear hF
        go_simp
        exact hK _ _ (Below.refl _ _) rfl
      refine Plan.det 16 rfl (Below.refl _) ?_
      apply Exists.intro
      refine ⟨fun vs x hR hF K hK => ?_, ?_⟩
      · have f4 := hF 10 _ _ rfl rfl; have f14 := hF 0 _ _ rfl rfl; clear hF
        go_simp
        exact hK _ _ (Below.refl _ _) rfl
      refine Plan.nil (fun vs x hR hF => ?_)
      have f0 := hF 15 _ _ rfl; have f1 := hF 14 _ _ rfl; have f2 := hF 13 _ _ rfl; have f3 := hF 12 _ _ rfl; have f4 := hF 11 _ _ rfl; have f5 := hF 10 _ _ rfl; have f6 := hF 9 _ _ rfl; have f7 := hF 8 _ _ rfl; have f8 := hF 7 _ _ rfl; have f9 := hF 6 _ _ rfl; have f10 := hF 5 _ _ rfl; have f11 := hF 4 _ _ rfl; have f12 := hF 3 _ _ rfl; have f13 := hF 2 _ _ rfl; have f14 := hF 1 _ _ rfl; have f15 := hF 0 _ _ rfl
      clear hF
      simp only [f0, f1, f2, f3, f4, f5, f6, f7, f8, f9, f10, f11, f12, f13, f14, f15]
      clear f0 f1 f2 f3 f4 f5 f6 f7 f8 f9 f10 f11 f12 f13 f14 f15
      simp only [List.drop_succ_cons, List.drop_zero]
      have HX := hid ((HS.out.trans ⟨HS.out.at'.kept (w' := wr.drew) (fun _ _ => rfl), ⟨rfl, rfl, rfl, Nat.le_refl _, fun _ _ _ => rfl⟩, fun _ hk => .inl hk⟩).more hR (Nat.le_refl _))
      have HFX := hid ((HF.out.kept (w' := wr.drew) (fun _ _ => rfl)).kept (w' := x) (fun i hi => hR.block i (HF.out.blocks i hi).2))
      have HGX : Hid (x.heap[g]? = w1.heap[g]?) := (hR.block g (by
        have h1 := HN.out.lt g rfl
        have h2 : g < wr.heap.size := by
          rcases Nat.lt_or_ge g wr.heap.size with h3 | h3
          · exact h3
          · have h4 := HG.out
            rw [Array.getElem?_eq_none h3] at h4
            rw [Array.getElem?_eq_getElem h1.2] at h4
            cases h4
        exact h2)).trans HG.out
      obtain ⟨x7, hx7⟩ : ∃ x7, x7 = x := ⟨x, rfl⟩
      subst hx7
      clear hR HC7 HS HF HG q qf hlk hnk
      go_upto_region 8 with fail
      try simp only [hz]
      have HC8 := hid (fun (x : World) (hx : Below x7.heap.size x7.drew x) => And.intro (Row.six ((show Row x7.drew B [.int .i64 s.limit, .int .i64 u, .int .i64 s.peak, .map (some s.mp), .bool false, .int .i64 0] _ from HX.out.at'.row).below hx HX.out.at'.row.lt)) (Row.two ((show Row x7.drew fb [.slice av ft.length cv, .int .i64 sy] _ from HFX.out.row).below hx HFX.out.row.lt)))
      refine wp_region_inv 14 (Below x7.heap.size) (by kernel_rfl) (by kernel_rfl) (Below.refl _) (fun _ _ _ => Below.trans) ?_
      simp only [fill, dstOf, Act.put, List.take_succ_cons, List.take_zero, List.getElem?_toArray, List.getElem?_cons_zero, List.getElem?_cons_succ, Option.bind_some, List.setIfInBounds_toArray, List.set_cons_zero, List.set_cons_succ]
      refine Plan.det 1 rfl (Below.refl _) ?_
      apply Exists.intro
      refine ⟨fun vs x hR hF K hK => ?_, ?_⟩
      · clear hF
        go_simp
        exact hK _ _ (Below.refl _ _) rfl
      refine Plan.det 2 rfl (Below.refl _) ?_
      apply Exists.intro
      refine ⟨fun vs x hR hF K hK => ?_, ?_⟩
      · have f0 := hF 0 _ _ rfl rfl; clear hF
        go_simp
        exact hK _ _ (Below.refl _ _) rfl
      refine Plan.det 3 rfl (Below.refl _) ?_
      apply Exists.intro
      refine ⟨fun vs x hR hF K hK => ?_, ?_⟩
      · have f1 := hF 0 _ _ rfl rfl; clear hF
        go_simp
        exact hK _ _ (Below.refl _ _) rfl
      refine Plan.det 4 rfl (Below.refl _) ?_
      apply Exists.intro
      refine ⟨fun vs x hR hF K hK => ?_, ?_⟩
      · have f2 := hF 0 _ _ rfl rfl; have hc := HC8.out x hR; clear hF
        go_simp
        exact hK _ _ (Below.refl _ _) rfl
      refine Plan.det 5 rfl (Below.refl _) ?_
      apply Exists.intro
      refine ⟨fun vs x hR hF K hK => ?_, ?_⟩
      · clear hF
        go_simp
        exact hK _ _ (Below.refl _ _) rfl
      refine Plan.det 6 rfl (Below.refl _) ?_
      apply Exists.intro
      refine ⟨fun vs x hR hF K hK => ?_, ?_⟩
      · have f4 := hF 0 _ _ rfl rfl; clear hF
        go_simp
        exact hK _ _ (Below.refl _ _) rfl
      refine Plan.det 7 rfl (Below.refl _) ?_
      apply Exists.intro
      refine ⟨fun vs x hR hF K hK => ?_, ?_⟩
      · have f5 := hF 0 _ _ rfl rfl; clear hF
        go_simp
        exact hK _ _ (Below.refl _ _) rfl
      refine Plan.det 8 rfl (Below.refl _) ?_
      apply Exists.intro
      refine ⟨fun vs x hR hF K hK => ?_, ?_⟩
      · have f6 := hF 0 _ _ rfl rfl; have hc := HC8.out x hR; clear hF
        go_simp
        exact hK _ _ (Below.refl _ _) rfl
      refine Plan.det 9 rfl (Below.refl _) ?_
      apply Exists.intro
      refine ⟨fun vs x hR hF K hK => ?_, ?_⟩
      · have f7 := hF 0 _ _ rfl rfl; clear hF
        go_simp
        exact hK _ _ (Below.refl _ _) rfl
      refine Plan.det 10 rfl (Below.refl _) ?_
      apply Exists.intro
      refine ⟨fun vs x hR hF K hK => ?_, ?_⟩
      · clear hF
        go_simp
        exact hK _ _ (Below.refl _ _) rfl
      refine Plan.det 11 rfl (Below.refl _) ?_
      apply Exists.intro
      refine ⟨fun vs x hR hF K hK => ?_, ?_⟩
      · have f8 := hF 1 _ _ rfl rfl; have f9 := hF 0 _ _ rfl rfl; clear hF
        go_simp
        exact hK _ _ (Below.refl _ _) rfl
      refine Plan.det 12 rfl (Below.refl _) ?_
      apply Exists.intro
      refine ⟨fun vs x hR hF K hK => ?_, ?_⟩
      · have f3 := hF 7 _ _ rfl rfl; have f10 := hF 0 _ _ rfl rfl; clear hF
        go_simp
        exact hK _ _ (Below.refl _ _) rfl
      refine Plan.det 13 rfl (Below.refl _) ?_
      apply Exists.intro
      refine ⟨fun vs x hR hF K hK => ?_, ?_⟩
      · have f0 := hF 11 _ _ rfl rfl; have f1 := hF 10 _ _ rfl rfl; have f2 := hF 9 _ _ rfl rfl; have f3 := hF 8 _ _ rfl rfl; have f4 := hF 7 _ _ rfl rfl; have f5 := hF 6 _ _ rfl rfl; have f6 := hF 5 _ _ rfl rfl; have f7 := hF 4 _ _ rfl rfl; have f8 := hF 3 _ _ rfl rfl; have f9 := hF 2 _ _ rfl rfl; have f10 := hF 1 _ _ rfl rfl; have f11 := hF 0 _ _ rfl rfl; clear hF
        go_simp
        exact hK _ _ (Below.refl _ _) rfl
      refine Plan.det 14 rfl (Below.refl _) ?_
      apply Exists.intro
      refine ⟨fun vs x hR hF K hK => ?_, ?_⟩
      · have f0 := hF 12 _ _ rfl rfl; have f1 := hF 11 _ _ rfl rfl; have f2 := hF 10 _ _ rfl rfl; have f3 := hF 9 _ _ rfl rfl; have f4 := hF 8 _ _ rfl rfl; have f5 := hF 7 _ _ rfl rfl; have f6 := hF 6 _ _ rfl rfl; have f7 := hF 5 _ _ rfl rfl; have f8 := hF 4 _ _ rfl rfl; have f9 := hF 3 _ _ rfl rfl; have f10 := hF 2 _ _ rfl rfl; have f11 := hF 1 _ _ rfl rfl; have f12 := hF 0 _ _ rfl rfl; clear hF
        go_simp
        exact hK _ _ (Below.refl _ _) rfl
      refine Plan.nil (fun vs x hR hF => ?_)
      have f0 := hF 13 _ _ rfl; have f1 := hF 12 _ _ rfl; have f2 := hF 11 _ _ rfl; have f3 := hF 10 _ _ rfl; have f4 := hF 9 _ _ rfl; have f5 := hF 8 _ _ rfl; have f6 := hF 7 _ _ rfl; have f7 := hF 6 _ _ rfl; have f8 := hF 5 _ _ rfl; have f9 := hF 4 _ _ rfl; have f10 := hF 3 _ _ rfl; have f11 := hF 2 _ _ rfl; have f12 := hF 1 _ _ rfl; have f13 := hF 0 _ _ rfl
      clear hF
      simp only [f0, f1, f2, f3, f4, f5, f6, f7, f8, f9, f10, f11, f12, f13]
      clear f0 f1 f2 f3 f4 f5 f6 f7 f8 f9 f10 f11 f12 f13
      simp only [List.drop_succ_cons, List.drop_zero]
      have HX2 := hid ((HX.out.trans ⟨HX.out.at'.kept (w' := x7.drew) (fun _ _ => rfl), ⟨rfl, rfl, rfl, Nat.le_refl _, fun _ _ _ => rfl⟩, fun _ hk => .inl hk⟩).more hR (Nat.le_refl _))
      have HFX2 := hid ((HFX.out.kept (w' := x7.drew) (fun _ _ => rfl)).kept (w' := x) (fun i hi => hR.block i (HFX.out.blocks i hi).2))
      have hg7 : g < x7.heap.size := by
        have h1 := HN.out.lt g rfl
        rcases Nat.lt_or_ge g x7.heap.size with h3 | h3
        · exact h3
        · have h4 := HGX.out
          rw [Array.getElem?_eq_none h3] at h4
          rw [Array.getElem?_eq_getElem h1.2] at h4
          cases h4
      have HGX2 : Hid (x.heap[g]? = w1.heap[g]?) := (hR.block g hg7).trans HGX.out
      have hgB : g ≠ B := fun e => by
        have h1 := HX2.out.at'.row
        unfold Row at h1
        rw [← e, HGX2.out] at h1
        obtain ⟨hlen, hv⟩ := HN.out
        rcases hv with ⟨hv, _⟩ | ⟨g', c', cur, hv, _, hb, _⟩
        · cases hv
        · injection hv with e1
          injection e1 with e1
          injection e1 with e1
          subst e1
          rw [hb] at h1
          simp only [Option.some.injEq, Obj.cells.injEq] at h1
          exact absurd h1.2.1 (by decide)
      have hgf : g ≠ fb := fun e => by
        have h1 := HFX2.out.row
        unfold Row at h1
        simp only at h1
        rw [← e, HGX2.out] at h1
        obtain ⟨hlen, hv⟩ := HN.out
        rcases hv with ⟨hv, _⟩ | ⟨g', c', cur, hv, _, hb, _⟩
        · cases hv
        · injection hv with e1
          injection e1 with e1
          injection e1 with e1
          subst e1
          rw [hb] at h1
          simp only [Option.some.injEq, Obj.cells.injEq] at h1
          exact absurd h1.2.1 (by decide)
      have hst := HX2.out.trans (HX2.out.at'.fields (s' := ⟨s.limit, u - ((ft.length : Int) - z), s.peak, s.mp, L1 ++ ⟨fn, fb, .slice av ft.length cv, ft, sy⟩ :: L2, false, 0⟩) ((But.refl [B] x).setCell (p := ⟨B, 1, none⟩) (.inl (by simp)) (.int .i64 (u - ((ft.length : Int) - z)))) (HX2.out.at'.row.set 1 _) rfl rfl)
      have HGY : Hid ((x.setCell ⟨B, 1, none⟩ (.int .i64 (u - ((ft.length : Int) - z)))).heap[g]? = w1.heap[g]?) := (Below.heap_setCell _ _ _ _ hgB).trans HGX2.out
      have hFB : fb ≠ B := fun e => absurd ((e ▸ HFX2.out.row : Row x B _ _).same_type HX2.out.at'.row) (by decide)
      have HFY := hid (HFX2.out.kept (w' := x.setCell ⟨B, 1, none⟩ (.int .i64 (u - ((ft.length : Int) - z)))) (fun i hi => Below.heap_setCell _ _ _ _ (fun e => by
        have hi2 := hi
        unfold Ent.own at hi2
        rcases List.mem_cons.1 hi2 with e2 | hi2
        · exact hFB (e2.symm.trans e)
        · cases hv : (Value.slice av ft.length cv).ownBlock with
          | none => simp only [hv] at hi2; cases hi2
          | some t =>
            simp only [hv] at hi2
            have e3 : i = t := by simpa using hi2
            exact HFX2.out.txt.ne_row HX2.out.at'.row (by decide) t hv (e3.symm.trans e))))
      have q8 := Row.six (show Row x B [.int .i64 s.limit, .int .i64 u, .int .i64 s.peak, .map (some s.mp), .bool false, .int .i64 0] _ from HX2.out.at'.row)
      have z8 := HX2.out.at'.row.lt
      have HST := hid hst
      clear hst hR HC8 HX HFX HGX HX2 HFX2 HGX2 hg7
      go_upto_region 9 with fail
      generalize (x.setCell ⟨B, 1, none⟩ (.int .i64 (u - ((ft.length : Int) - z)))) = y9 at HST HGY HFY ⊢
      clear q8 z8
      have q9 := Row.two (show Row y9 fb [.slice av ft.length cv, .int .i64 sy] _ from HFY.out.row)
      have z9 := HFY.out.row.lt
      have hzc : z ≤ cv := by have h1 : ft.length ≤ cv := hcv; omega
      go_wp2_with fail
      have htx := HFY.out.txt.cut2 z hz1
      have hst9 := HST.out.at'.file (w' := (y9.setCell ⟨fb, 0, none⟩ (.slice av z z)).setCell ⟨fb, 1, none⟩ (.int .i64 z)) (f' := ⟨fn, fb, .slice av z z, ft.take z, z⟩) (S := [fb]) rfl (((But.refl [fb] y9).setCell (p := ⟨fb, 0, none⟩) (.inl (by simp)) _).setCell (p := ⟨fb, 1, none⟩) (.inl (by simp)) _) (fun k hk => .inl (by simpa using hk)) ((HFY.out.row.set 0 (.slice av z z)).set 1 (.int .i64 z)) (htx.kept fun t ht => by
        have h1 : t ≠ fb := HFY.out.txt.ne_row HFY.out.row (by decide) t ((own_same av _ _ _ _).trans ht)
        rw [Below.heap_setCell _ _ _ _ h1, Below.heap_setCell _ _ _ _ h1]) rfl rfl (fun t ht => .inl ((own_same av _ _ _ _).trans ht)) (by have := HST.out.but.size; omega)
      have hall := HST.out.trans hst9
      have hlz : (ft.take z).length = z := by rw [List.length_take]; omega
      have hnew : total ((L1 ++ ⟨fn, fb, .slice av z z, ft.take z, z⟩ :: L2).map Ent.fl) = total (L1.map Ent.fl) + z + total (L2.map Ent.fl) := by
        rw [List.map_append, List.map_cons, total_app, total]
        show total (L1.map Ent.fl) + ((ft.take z).length + total (L2.map Ent.fl)) = _
        omega
      have hused : ((u : Int) - ((ft.length : Int) - z)) = (total ((L1 ++ ⟨fn, fb, .slice av z z, ft.take z, z⟩ :: L2).map Ent.fl) : Nat) := by
        rw [hnew]
        have := HTT.out
        omega
      refine ⟨⟨k + 1, L1 ++ [⟨fn, fb, .slice av z z, ft.take z, z⟩], by omega, by go_num, ?_, ?_, ?_⟩, by simp [intOf]; omega⟩
      · show _ = _
        rw [HTK.out, List.map_append, List.map_append, HL.out]
        show _ = rsts kept 0 ((s.ents.take k).map Ent.fl ++ [Ent.fl ⟨fn, fb, .slice av ft.length cv, ft, sy⟩])
        rw [rsts_snoc]
        have e1 : 0 + ((s.ents.take k).map Ent.fl).length = k := by rw [List.length_map, List.length_take]; omega
        rw [e1]
        congr 2
        show _ = [rst kept k ⟨fn, ft, sy⟩]
        unfold rst
        simp only [HBB.out, Int.toNat_natCast, HZK.out]
        rfl
      · show Step _ _ _ _ _ _
        rw [HL2.out, List.append_assoc]
        show Step base B s ⟨s.limit, (total ((L1 ++ ⟨fn, fb, .slice av z z, ft.take z, z⟩ :: L2).map Ent.fl) : Nat), s.peak, s.mp, L1 ++ ⟨fn, fb, .slice av z z, ft.take z, z⟩ :: L2, false, 0⟩ w _
        rw [← hused]
        exact hall
      · show _ = _
        rw [Below.heap_setCell _ _ _ _ hgf, Below.heap_setCell _ _ _ _ hgf]
        exact HGY.out
    · obtain rfl : k = s.ents.length := by omega
      go_wp2_with fail
      go_end0
      refine ⟨_, rfl, ?_, HS.out⟩
      have e1 : s.ents.drop s.ents.length = [] := List.drop_length
      have hl2 := HL.out
      rw [List.take_length] at hl2
      rw [e1, List.append_nil]
      show Ab.mk _ _ _ (L1.map Ent.fl) _ _ = Ab.restart _ _
      rw [hl2]
      rfl
end Go.Proofs.Ytnncbbfbnccnbaa
