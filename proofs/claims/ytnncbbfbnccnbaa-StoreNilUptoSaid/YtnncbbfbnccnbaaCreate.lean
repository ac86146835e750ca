/- The program's Create. -/
import Derived.Test.YtnncbbfbnccnbaaAppend
import Derived.Test.YtnncbbfbnccnbaaFName
namespace Go.Proofs.Ytnncbbfbnccnbaa
open Go.RowKit
attribute [local go_sem] gives givesUpon

/-- A file in the place of its name. -/
def insE (f : Ent) : List Ent → List Ent
  | [] => [f]
  | y :: r => if (Lit.string f.name).before (.string y.name) then f :: y :: r else y :: insE f r
theorem insE_perm (f : Ent) : ∀ l : List Ent, (insE f l).Perm (f :: l)
  | [] => List.Perm.refl _
  | y :: r => by
    unfold insE
    split
    · exact List.Perm.refl _
    · exact ((insE_perm f r).cons y).trans (List.Perm.swap f y r)
theorem insE_fl (f : Ent) : ∀ l : List Ent, (insE f l).map Ent.fl = ins f.fl (l.map Ent.fl)
  | [] => rfl
  | y :: r => by
    unfold insE
    rw [List.map_cons]
    unfold ins
    show _ = if (Lit.string f.name).before (.string y.name) then _ else _
    split
    · rfl
    · rw [List.map_cons, insE_fl f r]
theorem insE_item (f : Ent) : ∀ l : List Ent, (insE f l).map Ent.item = DataW.insert f.item (l.map Ent.item)
  | [] => rfl
  | y :: r => by
    unfold insE
    rw [List.map_cons]
    unfold DataW.insert
    show _ = if (Lit.string f.name).before (.string y.name) then _ else _
    split
    · rfl
    · rw [List.map_cons, insE_item f r]
theorem insE_len (f : Ent) (l : List Ent) : (insE f l).length = l.length + 1 := (insE_perm f l).length_eq
theorem put_toD (f : Ent) (l : List Ent) (h : ∀ x, x ∈ l → (x.name == f.name) = false) : (toD l).put (.string f.name) (.lit (.int .i64 f.blk)) = toD (insE f l) := by
  unfold toD DataW.put
  simp only
  rw [insE_item]
  congr 2
  rw [List.filter_eq_self]
  intro p hp
  obtain ⟨x, hx, rfl⟩ := List.mem_map.1 hp
  have e : (x.item.1.sameKey (.string f.name)) = (x.name == f.name) := rfl
  rw [e, h x hx]
  rfl
theorem apart_symm {a b : Ent} (h : a.apart b) : b.apart a := ⟨Ne.symm h.1, fun x hx hy => h.2 x hy hx⟩
/-- A new file. -/
theorem St.At.insert {w w2 w3 : World} {B base : Nat} {s : St} {f : Ent} (h : s.At w B base) (hw2 : w2 = w.alloc (.cells #[.slice none 0 0, .int .i64 0] 63)) (hf : f.blk = w.heap.size ∧ f.val = .slice none 0 0 ∧ f.text = [] ∧ f.sync = 0)
    (hm : w3.ownsMap Try.prog 9 ptrElem s.mp (s.ents.length + 1) (toD (insE f s.ents))) (hg : w2.grownBy w3 (some s.mp)) (hbase : base ≤ w.heap.size) : Step base B s { s with ents := insE f s.ents } w w3 := by
  obtain ⟨hf1, hf2, hf3, hf4⟩ := hf
  have hb2 : Below w.heap.size w w2 := by rw [hw2]; exact (Below.refl _ w).alloc (Nat.le_refl _) _
  have hsz : w2.heap.size = w.heap.size + 1 := by rw [hw2]; simp
  have hk : ∀ k, k < w.heap.size → k ≠ s.mp → w3.heap[k]? = w.heap[k]? := fun k hk hn => (hg.block k (by omega) (fun e => hn (by injection e))).trans (hb2.block k hk)
  have hmp := h.map.lt
  have hrow : Row w3 f.blk [f.val, .int .i64 f.sync] 63 := by
    rw [hf1, hf2, hf4]
    have h1 : Row w2 w.heap.size [.slice none 0 0, .int .i64 0] 63 := by rw [hw2]; exact Row.new (cs := [.slice none 0 0, .int .i64 0]) rfl
    exact (hg.block _ (by omega) (fun e => by injection e with e; omega)).trans h1
  have hbut : But (s.own B) w w3 := ⟨hg.os.trans hb2.os, hg.tape.trans hb2.tape, hg.output.trans hb2.output, Nat.le_trans hb2.size hg.size, fun k hkl hn => hk k hkl (fun e => hn (by subst e; unfold St.own; simp))⟩
  have hmem : ∀ g, g ∈ insE f s.ents → g = f ∨ g ∈ s.ents := fun g hgm => by
    have := (insE_perm f s.ents).mem_iff.1 hgm
    simpa using this
  refine ⟨⟨(hk B h.row.lt (Ne.symm (map_ne_row h.map h.row))).trans h.row, ?_, fun g hgm => ?_, ?_, h.lo⟩, hbut, fun k hko => ?_⟩
  · show w3.ownsMap _ _ _ s.mp (insE f s.ents).length _
    rw [insE_len]
    exact hm
  · rcases hmem g hgm with rfl | hgm
    · exact ⟨hrow, by rw [hf2, hf3]; exact Txt.nil _ _, by omega, fun t ht => by rw [hf2] at ht; cases ht⟩
    · have hG := h.ents g hgm
      refine hG.kept fun k hkg => hk k (hG.blocks k hkg).2 ?_
      intro e
      subst e
      unfold Ent.own at hkg
      rcases List.mem_cons.1 hkg with e | hkg
      · exact map_ne_row h.map hG.row e
      · cases hv : g.val.ownBlock with
        | none => rw [hv] at hkg; cases hkg
        | some t =>
          rw [hv] at hkg
          obtain rfl : s.mp = t := by simpa using hkg
          exact hG.txt.ne_map h.map _ hv rfl
  · refine ((insE_perm f s.ents).pairwise_iff (fun {a b} hab => apart_symm hab)).2 (List.Pairwise.cons (fun g hgm => ?_) h.apart)
    have hG := h.ents g hgm
    exact ⟨by rw [hf1]; have := hG.row.lt; omega, fun t ht => by rw [hf2] at ht; cases ht⟩
  · unfold St.own at hko ⊢
    simp only [List.mem_cons, List.mem_flatMap] at hko ⊢
    rcases hko with h1 | h1 | ⟨g, hgm, h1⟩
    · exact .inl (.inl h1)
    · exact .inl (.inr (.inl h1))
    · rcases hmem g hgm with rfl | hgm
      · unfold Ent.own at h1
        rw [hf2] at h1
        simp [Value.ownBlock] at h1
        exact .inr (by omega)
      · exact .inl (.inr (.inr ⟨g, hgm, h1⟩))

theorem eql_map (bm : Nat) (w : World) : (binOp .eql 45 (.map (some bm)) (.map none)).run Try.prog w = .ok (.bool false) w := by kernel_rfl
theorem size_toD (l : List Ent) : Maps.size (toD l) = l.length := by unfold toD; rw [Maps.size_eq, List.length_map]
set_option maxRecDepth 100000 in
set_option maxHeartbeats 4000000 in
theorem Create_any (w : World) (B base : Nat) (s : St) (nm : ByteArray) (h : s.At w B base) (ok : s.ab.ok) (hn : nm.size ≤ 1000000000) (hbase : base ≤ w.heap.size) :
    Calls Try.prog 10 #[.pointer (some ⟨B, 0, none⟩), .string nm] w (APost base B s (s.ab.create nm.data.toList) w) := by
  have HO := hid (begin_any w B base s h ok.count)
  have hnm : nm.size ≤ maxLen := by unfold maxLen; omega
  have HP : Hid (s.ab.create nm.data.toList = if s.began.crash = true then ((19 : Int), s.began.ab) else if nameOk nm.data.toList = false then (4, s.began.ab) else match s.began.find nm with
      | some _ => (6, s.began.ab)
      | none => if 64 ≤ s.began.ents.length then (3, s.began.ab) else (0, { s.began.ab with files := ins ⟨nm.data.toList, [], 0⟩ s.began.ab.files })) := by
    show _ = _
    unfold Ab.create
    rw [← St.ab_began, St.find_ab]
    have e : s.began.ab.files.length = s.began.ents.length := by show (s.began.ents.map Ent.fl).length = _; rw [List.length_map]
    rw [e]
    cases s.began.find nm <;> rfl
  have HN := hid (fun x => fileName_any nm x hn)
  generalize s.ab.create nm.data.toList = res at *
  generalize hs1 : s.began = s1 at *
  generalize nameOk nm.data.toList = ans at *
  clear h ok hs1
  rcases Bool.eq_false_or_eq_true s1.crash with hcr | hcr
  · have er : res = (19, s1.ab) := by rw [HP.out, if_pos hcr]
    have HE := hid er
    rw [hcr] at HO
    clear HP er hcr
    go_enter Try.func10, Try.ntmps10
    go_wp2_with fail
    refine HO.out.mono ?_
    rintro e w1 ⟨rfl, hs1⟩
    have HS := hid hs1
    clear hs1 HO
    go_wp2_with fail
    all_goals go_ret
    all_goals exact ⟨s1, by rw [HE.out]; rfl, by rw [HE.out], HS.out⟩
  · rcases Bool.eq_false_or_eq_true ans with ha | ha
    · subst ha
      cases hf : s1.find nm with
      | some f =>
        have er : res = (6, s1.ab) := by rw [HP.out, if_neg (by simp [hcr]), if_neg (by simp), hf]
        have HE := hid er
        have hpt : s1.ptr nm = some ⟨f.blk, 0, none⟩ := by unfold St.ptr; rw [hf]; rfl
        have HPT := hid hpt
        rw [hcr] at HO
        clear HP er hcr hf hpt
        go_enter Try.func10, Try.ntmps10
        go_wp2_with fail
        refine HO.out.mono ?_
        rintro e w1 ⟨rfl, hs1⟩
        have HS := hid hs1
        clear hs1 HO
        have q := HS.out.at'.six
        have hlk := HS.out.at'.look nm hnm
        rw [HPT.out] at hlk
        go_wp2_with fail
        refine (HN.out w1).mono ?_
        rintro e w2 ⟨rfl, rfl⟩
        go_wp2_with fail
        all_goals go_ret
        all_goals exact ⟨s1, by rw [HE.out]; rfl, by rw [HE.out], HS.out⟩
      | none =>
        have hpt : s1.ptr nm = none := by unfold St.ptr; rw [hf]; rfl
        have HPT := hid hpt
        have HNO : Hid (∀ x, x ∈ s1.ents → (x.name == nm.data.toList) = false) := by
          intro x hx
          unfold St.find at hf
          rw [List.find?_eq_none] at hf
          simpa using hf x hx
        rcases Nat.lt_or_ge s1.ents.length 64 with hl | hl
        · have er : res = (0, { s1.ab with files := ins ⟨nm.data.toList, [], 0⟩ s1.ab.files }) := by rw [HP.out, if_neg (by simp [hcr]), if_neg (by simp), hf]; exact if_neg (by omega)
          have HE := hid er
          rw [hcr] at HO
          clear HP er hcr hf hpt
          go_enter Try.func10, Try.ntmps10
          go_wp2_with fail
          refine HO.out.mono ?_
          rintro e w1 ⟨rfl, hs1⟩
          have HS := hid hs1
          clear hs1 HO
          have q := HS.out.at'.six
          have hlk := HS.out.at'.look nm hnm
          rw [HPT.out] at hlk
          have hlen := fun ty => HS.out.at'.map.len Try.underlying45 ty
          simp only [size_toD] at hlen
          have heq := eql_map s1.mp
          have HMP := hid (HS.out.at'.map.alloc (.cells #[.slice none 0 0, .int .i64 0] 63))
          go_wp2_with fail
          refine (HN.out w1).mono ?_
          rintro e w2 ⟨rfl, rfl⟩
          go_wp2_with (at_mapUpdate; refine wpList_mapUpdate_own _ rfl _ _ _ 45 rfl 9 60 strK Try.underlying45 ptrElem s1.mp s1.ents.length (toD s1.ents) rfl HMP.out (by unfold maxLen; omega) _ _ (.string nm.data.toList) rfl rfl (Go.WideMaps.keyOf_string_mk Try.underlying9 hnm) _ [] (ptrElem_mk w2.heap.size) ?_)
          intro w3 hown3 hgrow3
          rw [put_toD ⟨nm.data.toList, w2.heap.size, .slice none 0 0, [], 0⟩ s1.ents HNO.out] at hown3
          have hst := HS.out.at'.insert (f := ⟨nm.data.toList, w2.heap.size, .slice none 0 0, [], 0⟩) rfl ⟨rfl, rfl, rfl, rfl⟩ hown3 hgrow3 (by have := HS.out.but.size; omega)
          have HST := hid hst
          clear hst hown3 hgrow3 q hlk hlen heq HMP
          go_wp2_with fail
          all_goals go_ret
          all_goals exact ⟨_, by rw [HE.out]; rfl, by rw [HE.out]; show Ab.mk _ _ _ ((insE _ s1.ents).map Ent.fl) _ _ = _; rw [insE_fl]; rfl, HS.out.trans HST.out⟩
        · have er : res = (3, s1.ab) := by rw [HP.out, if_neg (by simp [hcr]), if_neg (by simp), hf]; exact if_pos hl
          have HE := hid er
          rw [hcr] at HO
          clear HP er hcr hf hpt
          go_enter Try.func10, Try.ntmps10
          go_wp2_with fail
          refine HO.out.mono ?_
          rintro e w1 ⟨rfl, hs1⟩
          have HS := hid hs1
          clear hs1 HO
          have q := HS.out.at'.six
          have hlk := HS.out.at'.look nm hnm
          rw [HPT.out] at hlk
          have hlen := fun ty => HS.out.at'.map.len Try.underlying45 ty
          simp only [size_toD] at hlen
          go_wp2_with fail
          refine (HN.out w1).mono ?_
          rintro e w2 ⟨rfl, rfl⟩
          go_wp2_with fail
          all_goals go_ret
          all_goals exact ⟨s1, by rw [HE.out]; rfl, by rw [HE.out], HS.out⟩
    · subst ha
      have er : res = (4, s1.ab) := by rw [HP.out, if_neg (by simp [hcr]), if_pos rfl]
      have HE := hid er
      rw [hcr] at HO
      clear HP er hcr
      go_enter Try.func10, Try.ntmps10
      go_wp2_with fail
      refine HO.out.mono ?_
      rintro e w1 ⟨rfl, hs1⟩
      have HS := hid hs1
      clear hs1 HO
      go_wp2_with fail
      refine (HN.out w1).mono ?_
      rintro e w2 ⟨rfl, rfl⟩
      go_wp2_with fail
      all_goals go_ret
      all_goals exact ⟨s1, by rw [HE.out]; rfl, by rw [HE.out], HS.out⟩
end Go.Proofs.Ytnncbbfbnccnbaa
