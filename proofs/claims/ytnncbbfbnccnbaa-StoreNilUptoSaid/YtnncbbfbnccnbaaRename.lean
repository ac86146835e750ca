/- The program's Remove and Rename. -/
import Derived.Test.YtnncbbfbnccnbaaRemove
namespace Go.Proofs.Ytnncbbfbnccnbaa
open Go.RowKit
attribute [local go_sem] gives givesUpon

def Ab.remove (a : Ab) (nm : List UInt8) : Int × Ab :=
  if a.began.crash = true then (19, a.began) else match a.began.find nm with
  | none => (5, a.began)
  | some _ => (0, a.began.dropped nm)
def Ab.rename (a : Ab) (nm nw : List UInt8) : Int × Ab :=
  if a.began.crash = true then (19, a.began) else match a.began.find nm with
  | none => (5, a.began)
  | some f => if nameOk nw = false then (4, a.began) else if nm = nw then (0, a.began) else
    (0, { a.began.dropped nw with files := ins ⟨nw, f.text, f.sync⟩ ((a.began.dropped nw).files.filter fun g => !(g.name == nm)) })
theorem pair_of {R : Ent → Ent → Prop} (sym : ∀ a b, R a b → R b a) : ∀ {l : List Ent}, l.Pairwise R → ∀ a, a ∈ l → ∀ b, b ∈ l → a ≠ b → R a b
  | [], _, a, ha, _, _, _ => by cases ha
  | x :: l, h, a, ha, b, hb, hab => by
    rw [List.pairwise_cons] at h
    rcases List.mem_cons.1 ha with ha2 | ha2
    · rcases List.mem_cons.1 hb with hb2 | hb2
      · exact absurd (ha2.trans hb2.symm) hab
      · rw [ha2]; exact h.1 b hb2
    · rcases List.mem_cons.1 hb with hb2 | hb2
      · rw [hb2]; exact sym _ _ (h.1 a ha2)
      · exact pair_of sym h.2 a ha2 b hb2 hab
theorem dropped_not (s : St) (nm : ByteArray) : ∀ x, x ∈ (s.dropped nm).ents → (x.name == nm.data.toList) = false := by
  intro x hx
  unfold St.dropped at hx
  cases hf : s.find nm with
  | none =>
    rw [hf] at hx
    unfold St.find at hf
    rw [List.find?_eq_none] at hf
    simpa using hf x hx
  | some f =>
    rw [hf] at hx
    have := (List.mem_filter.1 hx).2
    simpa using this
theorem dropped_mem {s : St} {nm : ByteArray} {f : Ent} (h : f ∈ s.ents) (hn : (f.name == nm.data.toList) = false) : f ∈ (s.dropped nm).ents := by
  unfold St.dropped
  cases s.find nm with
  | none => exact h
  | some g => exact List.mem_filter.2 ⟨h, by simp [hn]⟩
theorem dropped_mp (s : St) (nm : ByteArray) : (s.dropped nm).mp = s.mp := by unfold St.dropped; cases s.find nm <;> rfl
theorem dropped_len (s : St) (nm : ByteArray) : (s.dropped nm).ents.length ≤ s.ents.length := by
  unfold St.dropped
  cases s.find nm with
  | none => exact Nat.le_refl _
  | some g => exact List.length_filter_le _ _

set_option maxRecDepth 100000 in
set_option maxHeartbeats 4000000 in
theorem Remove_any (w : World) (B base : Nat) (s : St) (nm : ByteArray) (h : s.At w B base) (ok : s.ab.ok) (hn : nm.size ≤ maxLen) (_hbase : base ≤ w.heap.size) :
    Calls Try.prog 32 #[.pointer (some ⟨B, 0, none⟩), .string nm] w (APost base B s (s.ab.remove nm.data.toList) w) := by
  have HO := hid (open_any w B base s nm h ok.count hn)
  have hob := ok.began
  rw [← St.ab_began] at hob
  have HP : Hid (s.ab.remove nm.data.toList = if s.began.crash = true then ((19 : Int), s.began.ab) else match s.began.find nm with
      | none => ((5 : Int), s.began.ab)
      | some f => ((0 : Int), s.began.ab.dropped nm.data.toList)) := by
    show _ = _
    unfold Ab.remove
    rw [← St.ab_began, St.find_ab]
    cases s.began.find nm <;> rfl
  have HOV : Hid (s.opened nm = if s.began.crash = true then .tuple #[.pointer none, .int .i64 19] else match s.began.find nm with | none => .tuple #[.pointer none, .int .i64 5] | some f => .tuple #[.pointer (some ⟨f.blk, 0, none⟩), .int .i64 0]) := by
    show _ = _
    rw [St.began_find]; rfl
  generalize s.ab.remove nm.data.toList = res at *
  generalize s.opened nm = ov at *
  generalize s.began = s1 at *
  have HOK := hid hob
  clear h hob ok
  rcases Bool.eq_false_or_eq_true s1.crash with hcr | hcr
  · have eo : ov = .tuple #[.pointer none, .int .i64 19] := by rw [HOV.out, if_pos hcr]
    have er : res = ((19 : Int), s1.ab) := by rw [HP.out, if_pos hcr]
    subst eo
    have HE := hid er
    clear HP HOV er hcr
    go_enter Try.func32, Try.ntmps32
    go_wp2_with fail
    refine HO.out.mono ?_
    rintro e w1 ⟨rfl, hs1⟩
    have HS := hid hs1
    clear hs1 HO
    go_wp2_with fail
    all_goals go_ret
    all_goals exact ⟨s1, by rw [HE.out]; rfl, by rw [HE.out], HS.out⟩
  · cases hf : s1.find nm with
    | none =>
      have eo : ov = .tuple #[.pointer none, .int .i64 5] := by rw [HOV.out, if_neg (by simp [hcr]), hf]
      have er : res = ((5 : Int), s1.ab) := by rw [HP.out, if_neg (by simp [hcr]), hf]
      subst eo
      have HE := hid er
      clear HP HOV er hcr hf
      go_enter Try.func32, Try.ntmps32
      go_wp2_with fail
      refine HO.out.mono ?_
      rintro e w1 ⟨rfl, hs1⟩
      have HS := hid hs1
      clear hs1 HO
      go_wp2_with fail
      all_goals go_ret
      all_goals exact ⟨s1, by rw [HE.out]; rfl, by rw [HE.out], HS.out⟩
    | some f =>
      have eo : ov = .tuple #[.pointer (some ⟨f.blk, 0, none⟩), .int .i64 0] := by rw [HOV.out, if_neg (by simp [hcr]), hf]
      have er : res = ((0 : Int), s1.ab.dropped nm.data.toList) := by rw [HP.out, if_neg (by simp [hcr]), hf]
      subst eo
      have HE := hid er
      obtain ⟨hfn, l1, l2, hsp, hl1⟩ := St.find_split hf
      have hfm : f ∈ s1.ents := by rw [hsp]; simp
      have htl : f.text.length ≤ 262144 := by
        have h1 : f.fl ∈ s1.ab.files := List.mem_map_of_mem hfm
        have h2 := total_mem h1
        have h3 : s1.used = total s1.ab.files := HOK.out.used
        have h5 : s1.used ≤ s1.limit ∧ s1.limit ≤ 262144 := HOK.out.limit
        have h4 : f.fl.text.length = f.text.length := rfl
        omega
      have HSP := hid hsp
      have HFM := hid hfm
      have HF2 : Hid ((f.name == nm.data.toList) = true ∧ ∀ x, x ∈ l1 → (x.name == nm.data.toList) = false) := ⟨hfn, hl1⟩
      clear HP HOV er hcr hf hsp hfm hfn hl1
      go_enter Try.func32, Try.ntmps32
      go_wp2_with fail
      refine HO.out.mono ?_
      rintro e w1 ⟨rfl, hs1⟩
      have HS := hid hs1
      have HDR := hid (drop_any w1 B base s1 nm hs1.at' HOK.out hn)
      clear hs1 HO
      go_wp2_with fail
      refine HDR.out.mono ?_
      rintro e w2 ⟨rfl, hd⟩
      have HD2 := hid hd
      clear hd HDR
      go_wp2_with fail
      go_ret
      exact ⟨s1.dropped nm, by rw [HE.out]; rfl, by rw [HE.out, St.ab_dropped], HS.out.trans HD2.out⟩

set_option maxRecDepth 100000 in
set_option maxHeartbeats 4000000 in
theorem Rename_any (w : World) (B base : Nat) (s : St) (nm : ByteArray) (tx : ByteArray) (htx : tx.size ≤ 1000000000) (hlen : s.ents.length ≤ 1000000) (h : s.At w B base) (ok : s.ab.ok) (hn : nm.size ≤ maxLen) (_hbase : base ≤ w.heap.size) :
    Calls Try.prog 31 #[.pointer (some ⟨B, 0, none⟩), .string nm, .string tx] w (APost base B s (s.ab.rename nm.data.toList tx.data.toList) w) := by
  have HO := hid (open_any w B base s nm h ok.count hn)
  have hob := ok.began
  rw [← St.ab_began] at hob
  have HP : Hid (s.ab.rename nm.data.toList tx.data.toList = if s.began.crash = true then ((19 : Int), s.began.ab) else match s.began.find nm with
      | none => ((5 : Int), s.began.ab)
      | some f => if nameOk tx.data.toList = false then ((4 : Int), s.began.ab) else if nm.data.toList = tx.data.toList then (0, s.began.ab) else (0, { s.began.ab.dropped tx.data.toList with files := ins ⟨tx.data.toList, f.text, f.sync⟩ ((s.began.ab.dropped tx.data.toList).files.filter fun g => !(g.name == nm.data.toList)) })) := by
    show _ = _
    unfold Ab.rename
    rw [← St.ab_began, St.find_ab]
    cases s.began.find nm <;> rfl
  have HOV : Hid (s.opened nm = if s.began.crash = true then .tuple #[.pointer none, .int .i64 19] else match s.began.find nm with | none => .tuple #[.pointer none, .int .i64 5] | some f => .tuple #[.pointer (some ⟨f.blk, 0, none⟩), .int .i64 0]) := by
    show _ = _
    rw [St.began_find]; rfl
  generalize s.ab.rename nm.data.toList tx.data.toList = res at *
  generalize s.opened nm = ov at *
  have hle1 : s.began.ents.length ≤ 1000000 := by rw [St.began_ents]; exact hlen
  generalize s.began = s1 at *
  have HOK := hid hob
  clear h hob ok
  rcases Bool.eq_false_or_eq_true s1.crash with hcr | hcr
  · have eo : ov = .tuple #[.pointer none, .int .i64 19] := by rw [HOV.out, if_pos hcr]
    have er : res = ((19 : Int), s1.ab) := by rw [HP.out, if_pos hcr]
    subst eo
    have HE := hid er
    clear HP HOV er hcr
    go_enter Try.func31, Try.ntmps31
    go_wp2_with fail
    refine HO.out.mono ?_
    rintro e w1 ⟨rfl, hs1⟩
    have HS := hid hs1
    clear hs1 HO
    go_wp2_with fail
    all_goals go_ret
    all_goals exact ⟨s1, by rw [HE.out]; rfl, by rw [HE.out], HS.out⟩
  · cases hf : s1.find nm with
    | none =>
      have eo : ov = .tuple #[.pointer none, .int .i64 5] := by rw [HOV.out, if_neg (by simp [hcr]), hf]
      have er : res = ((5 : Int), s1.ab) := by rw [HP.out, if_neg (by simp [hcr]), hf]
      subst eo
      have HE := hid er
      clear HP HOV er hcr hf
      go_enter Try.func31, Try.ntmps31
      go_wp2_with fail
      refine HO.out.mono ?_
      rintro e w1 ⟨rfl, hs1⟩
      have HS := hid hs1
      clear hs1 HO
      go_wp2_with fail
      all_goals go_ret
      all_goals exact ⟨s1, by rw [HE.out]; rfl, by rw [HE.out], HS.out⟩
    | some f =>
      have eo : ov = .tuple #[.pointer (some ⟨f.blk, 0, none⟩), .int .i64 0] := by rw [HOV.out, if_neg (by simp [hcr]), hf]
      have er : res = if nameOk tx.data.toList = false then ((4 : Int), s1.ab) else if nm.data.toList = tx.data.toList then (0, s1.ab) else (0, { s1.ab.dropped tx.data.toList with files := ins ⟨tx.data.toList, f.text, f.sync⟩ ((s1.ab.dropped tx.data.toList).files.filter fun g => !(g.name == nm.data.toList)) }) := by rw [HP.out, if_neg (by simp [hcr]), hf]
      subst eo
      have HE := hid er
      obtain ⟨hfn, l1, l2, hsp, hl1⟩ := St.find_split hf
      have hfm : f ∈ s1.ents := by rw [hsp]; simp
      have htl : f.text.length ≤ 262144 := by
        have h1 : f.fl ∈ s1.ab.files := List.mem_map_of_mem hfm
        have h2 := total_mem h1
        have h3 : s1.used = total s1.ab.files := HOK.out.used
        have h5 : s1.used ≤ s1.limit ∧ s1.limit ≤ 262144 := HOK.out.limit
        have h4 : f.fl.text.length = f.text.length := rfl
        omega
      have HSP := hid hsp
      have HFM := hid hfm
      have HF2 : Hid ((f.name == nm.data.toList) = true ∧ ∀ x, x ∈ l1 → (x.name == nm.data.toList) = false) := ⟨hfn, hl1⟩
      clear HP HOV er hcr hf hsp hfm hfn hl1
      have HN := hid (fun x => fileName_any tx x htx)
      rcases Bool.eq_false_or_eq_true (nameOk tx.data.toList) with ha | ha
      · rw [ha] at HN
        by_cases heq : nm.data.toList = tx.data.toList
        · have HE2 : Hid (res = ((0 : Int), s1.ab)) := by show _ = _; rw [HE.out, if_neg (by simp [ha]), if_pos heq]
          have he : (nm.toList == tx.toList) = true := by rw [ByteArray.toList_eq, ByteArray.toList_eq, heq]; simp
          clear HE ha heq
          go_enter Try.func31, Try.ntmps31
          go_wp2_with fail
          refine HO.out.mono ?_
          rintro e w1 ⟨rfl, hs1⟩
          have HS := hid hs1
          clear hs1 HO
          go_wp2_with fail
          refine (HN.out w1).mono ?_
          rintro e w2 ⟨rfl, rfl⟩
          go_wp2_with fail
          all_goals go_ret
          all_goals exact ⟨s1, by rw [HE2.out]; rfl, by rw [HE2.out], HS.out⟩
        · have HE2 : Hid (res = ((0 : Int), { s1.ab.dropped tx.data.toList with files := ins ⟨tx.data.toList, f.text, f.sync⟩ ((s1.ab.dropped tx.data.toList).files.filter fun g => !(g.name == nm.data.toList)) })) := by show _ = _; rw [HE.out, if_neg (by simp [ha]), if_neg heq]
          have he : (nm.toList == tx.toList) = false := by rw [ByteArray.toList_eq, ByteArray.toList_eq]; simpa using heq
          have hfx : (f.name == tx.data.toList) = false := by
            have h1 : f.name = nm.data.toList := by simpa using HF2.out.1
            rw [h1]
            simpa using heq
          have HFX := hid hfx
          clear HE ha heq hfx
          go_enter Try.func31, Try.ntmps31
          go_wp2_with fail
          refine HO.out.mono ?_
          rintro e w1 ⟨rfl, hs1⟩
          have HS := hid hs1
          clear hs1 HO
          go_wp2_with fail
          refine (HN.out w1).mono ?_
          rintro e w2 ⟨rfl, rfl⟩
          have HDR := hid (drop_any w2 B base s1 tx HS.out.at' HOK.out (by unfold maxLen; omega))
          go_wp2_with fail
          refine HDR.out.mono ?_
          rintro e w3 ⟨rfl, hd⟩
          have HD2 := hid (HS.out.trans hd)
          clear hd HDR HS HN
          have q := HD2.out.at'.six
          have hmp := dropped_mp s1 tx
          rw [hmp] at q
          have hM := HD2.out.at'.map
          rw [hmp] at hM
          have HM := hid hM
          clear hM hmp
          go_wp2_with (at_delete; refine wpList_delete_own _ rfl _ _ 45 9 rfl 60 strK Try.underlying45 ptrElem s1.mp _ _ rfl HM.out _ _ rfl (Go.WideMaps.keyOf_string_mk Try.underlying9 hn) ?_)
          intro w4 hown4 hturn4
          rw [del_toD] at hown4
          have hB4 : Row w4 B (s1.dropped tx).cells 47 := (hturn4.grown.block B HD2.out.at'.row.lt (fun e => by injection e with e; exact map_ne_row HM.out HD2.out.at'.row e.symm)).trans HD2.out.at'.row
          have q4 := Row.six (show Row w4 B [.int .i64 (s1.dropped tx).limit, .int .i64 (s1.dropped tx).used, .int .i64 (s1.dropped tx).peak, .map (some s1.mp), .bool (s1.dropped tx).crash, .int .i64 (s1.dropped tx).count] _ from by rw [← dropped_mp s1 tx]; exact hB4)
          have HOWN := hid hown4
          have HT4 := hid hturn4.grown
          clear hown4 hturn4 hB4 q
          go_wp2_with (at_mapUpdate; refine wpList_mapUpdate_own _ rfl _ _ _ 45 rfl 9 60 strK Try.underlying45 ptrElem s1.mp _ _ rfl HOWN.out (by have h1 := dropped_len s1 tx; unfold maxLen; omega) _ _ (.string tx.data.toList) rfl rfl (Go.WideMaps.keyOf_string_mk Try.underlying9 (by unfold maxLen; omega)) _ [] (ptrElem_mk f.blk) ?_)
          intro w5 hown5 hgrow5
          have HNT := dropped_not s1 tx
          have HFM2 := dropped_mem HFM.out HFX.out
          rw [put_toD ⟨tx.data.toList, f.blk, f.val, f.text, f.sync⟩ _ (fun x hx => HNT x (List.mem_filter.1 hx).1)] at hown5
          have hg5 := HT4.out.andThen hgrow5 (fun j hj => .inr hj)
          have hst := HD2.out.trans (HD2.out.at'.remap (L := insE ⟨tx.data.toList, f.blk, f.val, f.text, f.sync⟩ ((s1.dropped tx).ents.filter fun g => !(g.name == nm.data.toList))) (by rw [dropped_mp]; exact hg5) (by rw [dropped_mp]; exact hown5) (fun g hg => by
            have h1 := (insE_perm _ _).mem_iff.1 hg
            rcases List.mem_cons.1 h1 with rfl | h1
            · exact ⟨f, HFM2, rfl, rfl, rfl, rfl⟩
            · exact ⟨g, (List.mem_filter.1 h1).1, rfl, rfl, rfl, rfl⟩) (((insE_perm _ _).pairwise_iff (fun {a b} hab => apart_symm hab)).2 (List.Pairwise.cons (fun g hg => by
              have h2 := List.mem_filter.1 hg
              have h3 : f ≠ g := fun e => by
                subst e
                have h4 := h2.2
                rw [HF2.out.1] at h4
                cases h4
              exact pair_of (fun a b => apart_symm) HD2.out.at'.apart f HFM2 g h2.1 h3) (HD2.out.at'.apart.filter _))))
          have HST := hid hst
          clear hst hown5 hgrow5 hg5 HNT HFM2 q4 HOWN HT4
          go_wp2_with fail
          all_goals go_ret
          all_goals
            refine ⟨_, by rw [HE2.out]; rfl, ?_, HST.out⟩
            rw [HE2.out, ← St.ab_dropped]
            show Ab.mk _ _ _ ((insE _ _).map Ent.fl) _ _ = _
            rw [insE_fl, filter_fl]
            rfl
      · have HE2 : Hid (res = ((4 : Int), s1.ab)) := by show _ = _; rw [HE.out, if_pos ha]
        rw [ha] at HN
        clear HE ha
        go_enter Try.func31, Try.ntmps31
        go_wp2_with fail
        refine HO.out.mono ?_
        rintro e w1 ⟨rfl, hs1⟩
        have HS := hid hs1
        clear hs1 HO
        go_wp2_with fail
        refine (HN.out w1).mono ?_
        rintro e w2 ⟨rfl, rfl⟩
        go_wp2_with fail
        all_goals go_ret
        all_goals exact ⟨s1, by rw [HE2.out]; rfl, by rw [HE2.out], HS.out⟩
end Go.Proofs.Ytnncbbfbnccnbaa
