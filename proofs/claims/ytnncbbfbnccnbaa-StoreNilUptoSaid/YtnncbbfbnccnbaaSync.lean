/- The program's Sync. -/
import Derived.Test.YtnncbbfbnccnbaaAppend
namespace Go.Proofs.Ytnncbbfbnccnbaa
open Go.RowKit
attribute [local go_sem] gives givesUpon

set_option maxRecDepth 100000 in
set_option maxHeartbeats 4000000 in
theorem Sync_any (w : World) (B base : Nat) (s : St) (nm : ByteArray) (h : s.At w B base) (ok : s.ab.ok) (hn : nm.size ≤ maxLen) (hbase : base ≤ w.heap.size) :
    Calls Try.prog 24 #[.pointer (some ⟨B, 0, none⟩), .string nm] w (APost base B s (s.ab.sync nm.data.toList) w) := by
  have HO := hid (open_any w B base s nm h ok.count hn)
  have hob := ok.began
  rw [← St.ab_began] at hob
  have HP : Hid (s.ab.sync nm.data.toList = if s.began.crash = true then ((19 : Int), s.began.ab) else match s.began.find nm with
      | none => ((5 : Int), s.began.ab)
      | some f => ((0 : Int), { s.began.ab with files := upd nm.data.toList (fun f => { f with sync := f.text.length }) s.began.ab.files })) := by
    show _ = _
    unfold Ab.sync
    rw [← St.ab_began, St.find_ab]
    cases s.began.find nm <;> rfl
  have HOV : Hid (s.opened nm = if s.began.crash = true then .tuple #[.pointer none, .int .i64 19] else match s.began.find nm with | none => .tuple #[.pointer none, .int .i64 5] | some f => .tuple #[.pointer (some ⟨f.blk, 0, none⟩), .int .i64 0]) := by
    show _ = _
    rw [St.began_find]; rfl
  generalize s.ab.sync nm.data.toList = res at *
  generalize s.opened nm = ov at *
  generalize s.began = s1 at *
  have HOK := hid hob
  clear h hob ok
  rcases Bool.eq_false_or_eq_true s1.crash with hcr | hcr
  · have eo : ov = .tuple #[.pointer none, .int .i64 19] := by rw [HOV.out, if_pos hcr]
    have er : res = ((19 : Int), s1.ab) := by rw [HP.out, if_pos hcr]
    subst eo
    have HE := hid er
    clear HP HOV er hcr
    go_enter Try.func24, Try.ntmps24
    go_wp2_with fail
    refine HO.out.mono ?_
    rintro e w1 ⟨rfl, hs1⟩
    have HS := hid hs1
    clear hs1 HO
    go_wp2_with fail
    all_goals go_ret
    all_goals exact ⟨s1, by rw [HE.out]; rfl, by rw [HE.out], HS.out⟩
  · cases hf : s1.find nm with
    | none =>
      have eo : ov = .tuple #[.pointer none, .int .i64 5] := by rw [HOV.out, if_neg (by simp [hcr]), hf]
      have er : res = ((5 : Int), s1.ab) := by rw [HP.out, if_neg (by simp [hcr]), hf]
      subst eo
      have HE := hid er
      clear HP HOV er hcr hf
      go_enter Try.func24, Try.ntmps24
      go_wp2_with fail
      refine HO.out.mono ?_
      rintro e w1 ⟨rfl, hs1⟩
      have HS := hid hs1
      clear hs1 HO
      go_wp2_with fail
      all_goals go_ret
      all_goals exact ⟨s1, by rw [HE.out]; rfl, by rw [HE.out], HS.out⟩
    | some f =>
      have eo : ov = .tuple #[.pointer (some ⟨f.blk, 0, none⟩), .int .i64 0] := by rw [HOV.out, if_neg (by simp [hcr]), hf]
      have er : res = ((0 : Int), { s1.ab with files := upd nm.data.toList (fun f => { f with sync := f.text.length }) s1.ab.files }) := by rw [HP.out, if_neg (by simp [hcr]), hf]
      subst eo
      have HE := hid er
      obtain ⟨hfn, l1, l2, hsp, hl1⟩ := St.find_split hf
      have hfm : f ∈ s1.ents := by rw [hsp]; simp
      have htl : f.text.length ≤ 262144 := by
        have h1 : f.fl ∈ s1.ab.files := List.mem_map_of_mem hfm
        have h2 := total_mem h1
        have h3 : s1.used = total s1.ab.files := HOK.out.used
        have h5 : s1.used ≤ s1.limit ∧ s1.limit ≤ 262144 := HOK.out.limit
        have h4 : f.fl.text.length = f.text.length := rfl
        omega
      have HSP := hid hsp
      have HFM := hid hfm
      have HF2 : Hid ((f.name == nm.data.toList) = true ∧ ∀ x, x ∈ l1 → (x.name == nm.data.toList) = false) := ⟨hfn, hl1⟩
      clear HP HOV er hcr hf hsp hfm hfn hl1
      obtain ⟨fname, fblk, fval, ftext, fsync⟩ := f
      simp only at htl
      go_enter Try.func24, Try.ntmps24
      go_wp2_with fail
      refine HO.out.mono ?_
      rintro e w1 ⟨rfl, hs1⟩
      have HS := hid hs1
      clear hs1 HO
      have hF := HS.out.at'.ents _ HFM.out
      obtain ⟨av, cv, hvv, -⟩ := hF.txt.form
      simp only at hvv
      subst hvv
      have HFA := hid hF
      have qf := Row.two (show Row w1 fblk [.slice av ftext.length cv, .int .i64 fsync] _ from hF.row)
      have zf := hF.row.lt
      clear hF
      go_wp2_with fail
      all_goals go_ret
      all_goals
        have hst := HS.out.at'.file (f' := ⟨fname, fblk, .slice av ftext.length cv, ftext, ftext.length⟩) HSP.out ((But.refl [fblk] w1).setCell (p := ⟨fblk, 1, none⟩) (.inl (by simp)) (.int .i64 ftext.length)) (fun k hk => .inl (by simpa using hk)) (HFA.out.row.set 1 _) (HFA.out.txt.kept fun g hg => Below.heap_setCell _ _ _ _ (fun e => HFA.out.txt.ne_row HFA.out.row (by decide) g hg e)) rfl rfl (fun g hg => .inl hg) (by have := HS.out.but.size; omega)
        refine ⟨_, by rw [HE.out]; rfl, ?_, HS.out.trans hst⟩
        rw [HE.out]
        obtain ⟨hfn, hl1'⟩ := HF2.out
        have e1 : s1.ab.files = l1.map Ent.fl ++ ⟨fname, ftext, fsync⟩ :: l2.map Ent.fl := by
          show s1.ents.map Ent.fl = _
          rw [HSP.out, List.map_append, List.map_cons]
          rfl
        have e2 := upd_at nm.data.toList (fun f => { f with sync := f.text.length }) (l1.map Ent.fl) ⟨fname, ftext, fsync⟩ (l2.map Ent.fl) (fun y hy => by
          obtain ⟨z, hz, rfl⟩ := List.mem_map.1 hy
          exact hl1' z hz) hfn
        rw [← e1] at e2
        rw [e2]
        show Ab.mk _ _ _ ((l1 ++ _ :: l2).map Ent.fl) _ _ = _
        rw [List.map_append, List.map_cons]
        rfl
end Go.Proofs.Ytnncbbfbnccnbaa
