/- The reference's store: Restart. -/
import Derived.Test.YtnncbbfbnccnbaaRs6
namespace Go.Proofs.Ytnncbbfbnccnbaa
open Go.RowKit
attribute [local go_sem] gives givesUpon

def part (kept : Nat) (L : List Fl) (k : Nat) : List Fl := rsts kept 0 (L.take k) ++ L.drop k
theorem part_len (kept : Nat) (L : List Fl) (k : Nat) (h : k ≤ L.length) : (part kept L k).length = L.length := by
  unfold part
  rw [List.length_append, rsts_len, List.length_take, List.length_drop]
  omega
theorem part_at (kept : Nat) (L : List Fl) (k : Nat) (h : k < L.length) : (part kept L k)[k]? = some L[k] := by
  unfold part
  rw [List.getElem?_append_right (by rw [rsts_len, List.length_take]; omega), rsts_len, List.length_take, List.getElem?_drop]
  rw [show k + (k - min k L.length) = k by omega, List.getElem?_eq_getElem h]
theorem part_set (kept : Nat) (L : List Fl) (k : Nat) (h : k < L.length) : (part kept L k).set k (rst kept k L[k]) = part kept L (k + 1) := by
  unfold part
  have e : L.take (k + 1) = L.take k ++ [L[k]] := by rw [List.take_add_one, List.getElem?_eq_getElem h]; rfl
  have hl : (rsts kept 0 (L.take k)).length = k := by rw [rsts_len, List.length_take]; omega
  rw [List.set_append_right _ _ (by rw [hl]; exact Nat.le_refl _), hl, Nat.sub_self, List.drop_eq_getElem_cons h, List.set_cons_zero, e, rsts_snoc]
  have e2 : 0 + (L.take k).length = k := by rw [List.length_take]; omega
  rw [e2, List.append_assoc]
  rfl
theorem min_keep (n sy b : Nat) (h : sy ≤ n) : min (n : Int) ((sy : Int) + (b : Int)) = (keep n sy b : Nat) := by unfold keep; omega
def RfsPost (base B : Nat) (s : RS) (a : Ab) (w : World) (e : Ending) (w' : World) : Prop := ∃ s', e = .returned (.tuple #[]) ∧ s'.ab = a ∧ RStep base B s s' w w'
set_option maxRecDepth 100000 in
set_option maxHeartbeats 8000000 in
theorem rRestart_any (w : World) (B base : Nat) (s : RS) (kept : Nat) (h : s.At w B base) (hg : s.ab.good) (_hbase : base ≤ w.heap.size) :
    Calls Try.prog 40 #[.pointer (some ⟨B, 0, none⟩), .int .u64 kept] w (RfsPost base B s (s.ab.restart kept) w) := by
  have hl : s.files.length ≤ 64 := hg.few
  have HG := hid hg
  have q := Row.five h.row
  have hz := h.row.lt
  have HPP : Hid (∀ (s' : RS) (w' : World), s'.ab = s.ab.restart kept → RStep base B s s' w w' → RfsPost base B s (s.ab.restart kept) w (.returned (.tuple #[])) w') := fun s' w' h1 h2 => ⟨s', rfl, h1, h2⟩
  generalize RfsPost base B s (s.ab.restart kept) w = PP at *
  obtain ⟨av, cv, hv⟩ := ownsRow_shape h.files
  have hst := h.fields (s' := ⟨s.limit, s.v, s.files, s.peak, false, 0⟩) (((But.refl [B] w).setCell (p := ⟨B, 3, none⟩) (.inl (by simp)) (.bool false)).setCell (p := ⟨B, 4, none⟩) (.inl (by simp)) (.int .i64 0)) ((h.row.set 3 (.bool false)).set 4 (.int .i64 0)) rfl rfl
  have HST := hid hst
  clear hst h hg
  obtain ⟨limit, v, files, peak, crash, count⟩ := s
  simp only at hv hl HST q
  subst hv
  go_enter Try.func40, Try.ntmps40
  go_wp2_with fail
  generalize ((w.setCell ⟨B, 3, none⟩ (.bool false)).setCell ⟨B, 4, none⟩ (.int .i64 0)) = y at HST ⊢
  clear q hz
  go_loopw [4] (fun i wr => ∃ (k : Nat), k ≤ files.length ∧ i = .int .i64 k ∧ Hid (RStep base B ⟨limit, .slice av files.length cv, files, peak, crash, count⟩ ⟨limit, .slice av files.length cv, part kept files k, peak, false, 0⟩ w wr)) (fun i _ => files.length - (intOf i).toNat)
  case atStart => exact ⟨0, by omega, rfl, HST.out⟩
  case round =>
    obtain ⟨k, hk, rfl, HS⟩ := hrel
    have hpl := part_len kept files k hk
    have q := Row.five (show Row wr B [.int .i64 limit, .slice av files.length cv, .int .i64 peak, .bool false, .int .i64 0] _ from HS.out.at'.row)
    have hz := HS.out.at'.row.lt
    rcases Nat.lt_or_ge k files.length with hlt | hge
    · obtain ⟨g, cap, hvv, hgl⟩ := OwnR.form HS.out.at'.files (show 0 < (part kept files k).length by omega)
      simp only [hpl] at hvv
      injection hvv with e1 e2 e3
      subst e1 e3
      have hkp : k < (part kept files k).length := by omega
      have hpa := part_at kept files k hlt
      rw [List.getElem?_eq_getElem hkp] at hpa
      have hpa2 : (part kept files k)[k] = files[k] := by injection hpa
      have c0 := OwnR.cells (show OwnR wr base (.slice (some ⟨g, 0, none⟩) files.length cv) (part kept files k) from HS.out.at'.files) k hkp
      have cf := fun o => OwnR.free (show OwnR wr base (.slice (some ⟨g, 0, none⟩) files.length cv) (part kept files k) from HS.out.at'.files) o
      rw [hpa2] at c0
      have hps := part_set kept files k hlt
      have hsy := HG.out.ok.sync files[k] (List.getElem_mem hlt)
      have htl : files[k].text.length ≤ 262144 := ok_text HG.out.ok (f := files[k]) (List.getElem_mem hlt)
      generalize files[k] = f at *
      have HPS := hid hps
      have HPA := hid hpa2
      clear hps hpa hpa2
      obtain ⟨fn, ft, fs⟩ := f
      obtain ⟨sy, rfl⟩ : ∃ n : Nat, fs = n := ⟨fs.toNat, by have : 0 ≤ fs := hsy.1; omega⟩
      have hsy2 : sy ≤ ft.length := by have : (sy : Int) ≤ ft.length := hsy.2; omega
      simp only at c0 htl
      clear hsy
      have hkb : kb kept k < 256 := Nat.mod_lt _ (by decide)
      have hke := kb_eq kept k
      have hkI : (k : Int) < (files.length : Int) := by omega
      have hk64 : (k : Int) ≤ 64 := by omega
      have hsz : (⟨ft.toArray⟩ : ByteArray).size = ft.length := by show ft.toArray.size = _; rw [List.size_toArray]
      go_upto_region 7 with fail
      simp only [hke]
      generalize hbb : kb kept k = b at *
      have HBB := hid hbb
      clear hbb hke
      have hz : min (ft.length : Int) ((sy : Int) + (b : Int)) = (keep ft.length sy b : Nat) := min_keep _ _ _ hsy2
      have hwr : IntKind.i64.wrap ((sy : Int) + b) = sy + b := IntWalk.i64_in _ (by omega)
      generalize hzk : keep ft.length sy b = z at *
      have HZK := hid hzk
      have hz1 : z ≤ ft.length := by rw [← hzk]; unfold keep; omega
      clear hzk
      generalize hA : (⟨ft.toArray⟩ : ByteArray) = A at c0 hsz
      have HAA := hid hA
      clear hA
      have hz1A : (z : Int) ≤ (A.size : Int) := by omega
      go_upto_region 10 with fail
      have HBX := hid (Row.at wr [.string ⟨fn.toArray⟩, .string (A.extract 0 z), .int .i64 z] 74)
      replace HBX : Hid (Row (wr.alloc (.cells #[.string ⟨fn.toArray⟩, .string (A.extract 0 z), .int .i64 z] 74)) wr.heap.size [.string ⟨fn.toArray⟩, .string (A.extract 0 z), .int .i64 z] 74) := HBX
      have HSX := hid (HS.out.more ((Below.refl _ wr).alloc (Nat.le_refl _) (.cells #[.string ⟨fn.toArray⟩, .string (A.extract 0 z), .int .i64 z] 74)) (Nat.le_refl _))
      clear q c0 cf HS
      generalize wr.alloc (.cells #[.string ⟨fn.toArray⟩, .string (A.extract 0 z), .int .i64 z] 74) = x4 at *
      generalize wr.heap.size = b9 at *
      have c4 := OwnR.cells (show OwnR x4 base (.slice (some ⟨g, 0, none⟩) files.length cv) (part kept files k) from HSX.out.at'.files) k hkp
      rw [HPA.out] at c4
      have cf4 := fun o => OwnR.free (show OwnR x4 base (.slice (some ⟨g, 0, none⟩) files.length cv) (part kept files k) from HSX.out.at'.files) o
      have hg4 : g < x4.heap.size := (HSX.out.at'.files.lt g rfl).2
      have HC := hid (fun (x : World) (hx : Drawn x4.drew x) => And.intro (by obtain ⟨m, rfl⟩ := hx; exact Row.five (show Row x4 B [.int .i64 limit, .slice (some ⟨g, 0, none⟩) files.length cv, .int .i64 peak, .bool false, .int .i64 0] _ from HSX.out.at'.row) : ((x.cell? ⟨B, 0, none⟩ = some (.int .i64 limit) ∧ x.cell? ⟨B, 1, none⟩ = some (.slice (some ⟨g, 0, none⟩) files.length cv) ∧ x.cell? ⟨B, 2, none⟩ = some (.int .i64 peak) ∧ x.cell? ⟨B, 3, none⟩ = some (.bool false) ∧ x.cell? ⟨B, 4, none⟩ = some (.int .i64 0)) ∧ _)) (by obtain ⟨m, rfl⟩ := hx; exact ⟨HBX.out.cell 0, HBX.out.cell 1, HBX.out.cell 2⟩ : x.cell? ⟨b9, 0, none⟩ = some (.string ⟨fn.toArray⟩) ∧ x.cell? ⟨b9, 1, none⟩ = some (.string (A.extract 0 z)) ∧ x.cell? ⟨b9, 2, none⟩ = some (.int .i64 z)))
      refine wp_region_inv 7 (Drawn) (by kernel_rfl) (by kernel_rfl) (Drawn.refl) (fun _ _ _ => Drawn.trans) ?_
      simp only [fill, dstOf, Act.put, List.take_succ_cons, List.take_zero, List.getElem?_toArray, List.getElem?_cons_zero, List.getElem?_cons_succ, Option.bind_some, List.setIfInBounds_toArray, List.set_cons_zero, List.set_cons_succ]
      refine Plan.det 1 rfl (Drawn.refl) ?_
      apply Exists.intro
      refine ⟨fun vs x hR hF K hK => ?_, ?_⟩
      · clear hF
        go_simp
        exact hK _ _ (Drawn.refl _) rfl
      refine Plan.det 2 rfl (Drawn.refl) ?_
      apply Exists.intro
      refine ⟨fun vs x hR hF K hK => ?_, ?_⟩
      · have f0 := hF 0 _ _ rfl rfl; clear hF
        go_simp
        exact hK _ _ (Drawn.refl _) rfl
      refine Plan.det 3 rfl (Drawn.refl) ?_
      apply Exists.intro
      refine ⟨fun vs x hR hF K hK => ?_, ?_⟩
      · have f1 := hF 0 _ _ rfl rfl; clear hF
        go_simp
        exact hK _ _ (Drawn.refl _) rfl
      refine Plan.det 4 rfl (Drawn.refl) ?_
      apply Exists.intro
      refine ⟨fun vs x hR hF K hK => ?_, ?_⟩
      · have f2 := hF 0 _ _ rfl rfl; have hc := HC.out x hR; clear hF
        go_simp
        exact hK _ _ (Drawn.refl _) rfl
      refine Plan.det 5 rfl (Drawn.refl) ?_
      apply Exists.intro
      refine ⟨fun vs x hR hF K hK => ?_, ?_⟩
      · clear hF
        go_simp
        exact hK _ _ (Drawn.refl _) rfl
      refine Plan.det 6 rfl (Drawn.refl) ?_
      apply Exists.intro
      refine ⟨fun vs x hR hF K hK => ?_, ?_⟩
      · have hc := HC.out x hR; clear hF
        go_simp
        exact hK _ _ (Drawn.refl _) rfl
      refine Plan.det 7 rfl (Drawn.refl) ?_
      apply Exists.intro
      refine ⟨fun vs x hR hF K hK => ?_, ?_⟩
      · have f0 := hF 5 _ _ rfl rfl; have f1 := hF 4 _ _ rfl rfl; have f2 := hF 3 _ _ rfl rfl; have f3 := hF 2 _ _ rfl rfl; have f4 := hF 1 _ _ rfl rfl; have f5 := hF 0 _ _ rfl rfl; clear hF
        go_simp
        exact hK _ _ (Drawn.refl _) rfl
      refine Plan.nil (fun vs x hR hF => ?_)
      have f0 := hF 6 _ _ rfl; have f1 := hF 5 _ _ rfl; have f2 := hF 4 _ _ rfl; have f3 := hF 3 _ _ rfl; have f4 := hF 2 _ _ rfl; have f5 := hF 1 _ _ rfl; have f6 := hF 0 _ _ rfl
      clear hF
      simp only [f0, f1, f2, f3, f4, f5, f6]
      clear f0 f1 f2 f3 f4 f5 f6
      simp only [List.drop_succ_cons, List.drop_zero]
      have HDX := hid (Drawn.trans ⟨1, rfl⟩ hR : Drawn x4 x)
      have HSY := hid (HSX.out.more HDX.out.below (Nat.le_refl _))
      have cfx : ∀ o, x.frozen? ⟨g, o, none⟩ = false := by obtain ⟨m, rfl⟩ := hR; exact cf4
      have c0x : x.cell? ⟨g, k * 3, none⟩ = some (.string ⟨fn.toArray⟩) ∧ x.cell? ⟨g, k * 3 + 1, none⟩ = some (.string A) ∧ x.cell? ⟨g, k * 3 + 2, none⟩ = some (.int .i64 sy) := by obtain ⟨m, rfl⟩ := hR; rw [← HAA.out]; exact c4
      have hgx : g < x.heap.size := by obtain ⟨m, rfl⟩ := hR; exact hg4
      clear c4 cf4 HC
      go_wp2_with fail
      case roundEnd =>
        refine ⟨⟨k + 1, hlt, rfl, ?_⟩, ?_⟩
        · have hex : A.extract 0 z = ⟨(ft.take z).toArray⟩ := by
            rw [← HAA.out]
            apply ByteArray.ext
            rw [ByteArray.data_extract]
            apply Array.ext'
            rw [Array.toList_extract]
            simp [List.extract]
          have hrs : rst kept k ⟨fn, ft, sy⟩ = ⟨fn, ft.take z, z⟩ := by
            unfold rst
            simp only [HBB.out, Int.toNat_natCast, HZK.out]
          refine HSY.out.trans (RS.At.filled HSY.out.at' (g := g) rfl ((((But.refl [g] x).setCell (p := ⟨g, k * 3, none⟩) (.inl (by simp)) _).setCell (p := ⟨g, k * 3 + 1, none⟩) (.inl (by simp)) _).setCell (p := ⟨g, k * 3 + 2, none⟩) (.inl (by simp)) _) rfl rfl ?_)
          show OwnR _ base (.slice (some ⟨g, 0, none⟩) files.length cv) (part kept files (k + 1))
          rw [← HPS.out, hrs, hex]
          have g0 : OwnR x base (.slice (some ⟨g, 0, none⟩) files.length cv) (part kept files k) := HSY.out.at'.files
          have g1 := g0.setAt hpl.symm k 0 hkp (by omega) (.string ⟨fn.toArray⟩) ⟨fn, ft, sy⟩ (by rw [HPA.out]; rfl)
          have g2 := g1.setAt (by rw [List.length_set]; exact hpl.symm) k 1 (by rw [List.length_set]; exact hkp) (by omega) (.string ⟨(ft.take z).toArray⟩) ⟨fn, ft.take z, sy⟩ (by rw [List.getElem_set_self]; rfl)
          have g3 := g2.setAt (by rw [List.length_set, List.length_set]; exact hpl.symm) k 2 (by rw [List.length_set, List.length_set]; exact hkp) (by omega) (.int .i64 z) ⟨fn, ft.take z, z⟩ (by rw [List.getElem_set_self]; rfl)
          rw [List.set_set, List.set_set] at g3
          exact g3
        · show files.length - ((k : Int) + 1).toNat < files.length - (k : Int).toNat
          omega
    · obtain rfl : k = files.length := by omega
      go_wp2_with fail
      all_goals go_end0
      all_goals
        refine HPP.out _ _ ?_ HS.out
        unfold part
        rw [List.take_length, List.drop_length, List.append_nil]
        rfl
end Go.Proofs.Ytnncbbfbnccnbaa
