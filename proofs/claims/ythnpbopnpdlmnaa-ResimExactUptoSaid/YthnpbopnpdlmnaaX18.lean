/- The program's reach: a depth-first search. -/
import Derived.Test.YthnpbopnpdlmnaaX16
import Derived.Deep.AppendLies
import Derived.Deep.RegionLaw
namespace Go.Proofs.Ythnpbopnpdlmnaa
open Go.RowKit
attribute [local go_sem] gives givesUpon

theorem info_thread : (Try.prog.info? 96).map (fun i => (i.zero, i.size, i.bytes)) = some (some (.agg #[.int .i64 0, .int .i64 0]), 2, 16) := by kernel_rfl
def RePost (wb w : World) (m : Sim) (M : Nat) (a : Option Addr) (c : Nat) (str : ByteArray) (st : Int) (sv lv : Value) (mk : Nat → Int) (T : List (Nat × Nat)) (r0 fr i : Nat) (e : Ending) (w' : World) : Prop :=
  ∃ (mk' : Nat → Int) (sv' lv' : Value) (news : List Nat), e = .returned lv' ∧ RchM wb w m M a c str st sv lv mk' sv' [] lv' (T ++ news.map fun k => (k, fr)) w' ∧ news.Nodup ∧ (∀ k, k ∈ news ↔ m.leaf k ∧ m.Reach i (· = r0) k ∧ mk k ≠ st) ∧
    (∀ k, mk' k = st ↔ mk k = st ∨ m.Reach i (· = r0) k) ∧ (∀ k, mk' k = st ∨ mk' k = mk k) ∧ news.length + unv mk' st m.L.length ≤ unv mk st m.L.length
set_option maxRecDepth 100000 in
set_option maxHeartbeats 16000000 in
theorem reach_any (wb w : World) (m : Sim) (M : Nat) (a : Option Addr) (c : Nat) (str : ByteArray) (st : Int) (sv lv : Value) (mk : Nat → Int) (St0 : List Nat) (T : List (Nat × Nat)) (r0 fr i : Nat) (env : Env wb m a str)
    (h : RchM wb w m M a c str st sv lv mk sv St0 lv T w) (hx : r0 < m.L.length) (hi : i ≤ str.size) (_hfr : fr ≤ 1000000) (hT : T.length ≤ 1000000) (hcl : ∀ k, mk k = st → ∀ j, j ∈ m.eps i k → mk j = st) :
    Calls Try.prog 41 #[.pointer (some ⟨M, 0, none⟩), lv, .int .i64 r0, .int .i64 fr, .int .i64 i] w (RePost wb w m M a c str st sv lv mk T r0 fr i) := by
  have HE := hid env
  have hn2 := env.right.1.2
  have hul := unv_le mk st m.L.length
  have HPP : Hid (∀ (mk' : Nat → Int) (sv' lv' : Value) (news : List Nat) (w' : World), RchM wb w m M a c str st sv lv mk' sv' [] lv' (T ++ news.map fun k => (k, fr)) w' → news.Nodup → (∀ k, k ∈ news ↔ m.leaf k ∧ m.Reach i (· = r0) k ∧ mk k ≠ st) →
    (∀ k, mk' k = st ↔ mk k = st ∨ m.Reach i (· = r0) k) → (∀ k, mk' k = st ∨ mk' k = mk k) → news.length + unv mk' st m.L.length ≤ unv mk st m.L.length → RePost wb w m M a c str st sv lv mk T r0 fr i (.returned lv') w') := fun mk' sv' lv' news w' h1 h2 h3 h4 h5 h6 => ⟨mk', sv', lv', news, rfl, h1, h2, h3, h4, h5, h6⟩
  generalize RePost wb w m M a c str st sv lv mk T r0 fr i = PP at *
  obtain ⟨sad, scap, hsv⟩ := ownsRow_shape h.stk
  obtain ⟨lad, lcap, hlv⟩ := ownsRow_shape h.lst
  have q := h.sim.cells
  have hz := h.sim.lt
  have hfree := h.sim.free
  have H0 := hid h
  have HD0 := hid (Sim.Dfs.first (m := m) (i := i) (x := r0) hcl)
  have e0 : Option.map (fun a => a.add 0) sad = sad := by
    have h1 := h.stk
    rw [hsv] at h1
    obtain ⟨-, h2⟩ := h1
    rcases h2 with ⟨hv, -⟩ | ⟨g, cap, cur, hv, -⟩
    · injection hv with e1
      subst e1; rfl
    · injection hv with e1
      subst e1
      simp [Addr.add_lit]
  have hown0 := ownsRow_cut (by rw [hsv] at h; exact h.stk) (k := 0) (Nat.zero_le _)
  rw [List.take_zero] at hown0
  have HOWN0 := hid hown0
  clear h hcl env
  go_enter Try.func41, Try.ntmps41
  subst hsv hlv
  have HT := hid hT
  obtain ⟨i0, hi0, hz0, hz1, hz2⟩ := info_parts info_int
  go_wp2_with (at_builtin; refine wpList_append_row rfl _ _ 69 rfl wb.heap.size 3 i0 (.int .i64 0) 1 8 Try.underlying69 hi0 hz0 hz1 hz2 rfl (by decide) _ 0 [] rfl (HOWN0.out.alloc _) ⟨w.heap.size, 0, none⟩ 1 1 [.int .i64 r0] rfl rfl ?c1 ?c2 ?c3 ?c4 ?c5 (by decide) ?_)
  case c2 => simp [Value.oneCell']
  case c3 => unfold maxLen; omega
  case c5 => have := H0.out.low.size; omega
  intro a2 c2 w3 hown hgrow hnw
  have hown1 : w3.ownsRow wb.heap.size 3 1 (.slice a2 1 c2) [r0].length ([r0].map natV) := hown
  have hgr2 : (w.alloc (.cells #[.int .i64 r0] 3)).grownBy w3 (Value.slice sad St0.length scap).ownBlock := by cases sad <;> exact hgrow
  have hpu := (H0.out.more ((Below.refl _ w).alloc (Nat.le_refl _) (.cells #[.int .i64 r0] 3))).push hown1 hgr2 (fun g hg => by
    rcases hnw g hg with h1 | h1
    · left; cases sad <;> exact h1
    · right; simpa using h1)
  have HP := hid hpu
  have hs3 := (H0.out.more ((Below.refl _ w).alloc (Nat.le_refl _) (.cells #[.int .i64 r0] 3))).simGrown hgr2
  have q3 := hs3.cells
  have hz3 := hs3.lt
  have hf3 := hs3.free
  clear hs3 hgr2 hown hgrow hnw hown1 hpu q e0 hz hfree H0 HOWN0 hi0 hz0 hz1 hz2 hown0
  clear i0
  go_wp2_with fail
  clear q3 hz3 hf3
  generalize w3.setCell ⟨M, 4100, none⟩ (.slice a2 1 c2) = w4 at *
  have HMK0 : Hid (∀ k, mk k = st ∨ mk k = mk k) := fun _ => .inr rfl
  go_loopw [1] (fun v wr => ∃ (mk' : Nat → Int) (sa : Option Addr) (sc : Nat) (St' : List Nat) (la : Option Addr) (lc : Nat) (acc : List Nat) (sn ln : Nat), v = .slice la ln lc ∧ ln = T.length + acc.length ∧ sn = St'.length ∧ Hid (RchM wb w m M a c str st (.slice sad St0.length scap) (.slice lad T.length lcap) mk' (.slice sa sn sc) St' (.slice la ln lc) (T ++ acc.map fun k => (k, fr)) wr) ∧
    Hid (m.Dfs i r0 (fun k => mk k = st) (fun k => mk' k = st) St' acc) ∧ Hid (∀ k, mk' k = st ∨ mk' k = mk k) ∧ 3 * unv mk' st m.L.length + sn ≤ 3 * m.L.length + 1 ∧ acc.length + unv mk' st m.L.length ≤ unv mk st m.L.length) (fun _ wr => measW wr M st m.L.length)
  case atStart =>
    refine ⟨mk, a2, c2, [r0], lad, lcap, [], 1, T.length, rfl, rfl, rfl, ?_, HD0.out, HMK0.out, ?_, ?_⟩
    · refine hid ?_
      simpa using HP.out
    · have := unv_le mk st m.L.length; omega
    · simp
  case round =>
    obtain ⟨mk', sa, sc, St', la, lc, acc, sn, ln, rfl, hln, hsn, HR, HD, HMK, hms, hma⟩ := hrel
    subst hln
    have q := HR.out.sim.cells
    rcases List.eq_nil_or_concat St' with rfl | ⟨St2, k, rfl⟩
    · obtain rfl : sn = 0 := hsn
      clear HD0 HP
      go_wp2_with fail
      all_goals
        (try go_ret)
        obtain ⟨hd1, -⟩ := HD.out.last
        exact HPP.out mk' _ _ acc _ HR.out HD.out.nd (fun k => by rw [HD.out.mem]; constructor; (intro ⟨h1, h2, h3⟩; exact ⟨h1, ((hd1 k).1 h2).resolve_left h3, h3⟩); (intro ⟨h1, h2, h3⟩; exact ⟨h1, (hd1 k).2 (.inr h2), h3⟩)) hd1 HMK.out hma
    · obtain rfl : sn = St2.length + 1 := by rw [hsn, List.concat_eq_append, List.length_append]; rfl
      clear hsn
      rw [List.concat_eq_append] at HR HD
      have hkn : k < m.L.length := Sim.Reach.lt HE.out.right (fun j hj => by subst hj; exact hx) (HD.out.stk k (by simp))
      obtain ⟨sg, hsg, hsgl, hsc⟩ : ∃ g, sa = some ⟨g, 0, none⟩ ∧ g < wr.heap.size ∧ St2.length ≤ sc := by
        obtain ⟨-, h2⟩ := id HR.out.stk
        rcases h2 with ⟨-, h2⟩ | ⟨g, cap, cur, hv, -, -, h3, -⟩
        · simp at h2
        · injection hv with e1 e2 e3
          refine ⟨g, e1, (HR.out.stk.lt g (by rw [e1]; rfl)).2, ?_⟩
          rw [List.length_append] at h3
          simp at h3
          omega
      have hwr : IntKind.i64.wrap ((St2.length : Nat) : Int) = (St2.length : Nat) := IntWalk.i64_in _ (by omega)
      subst hsg
      have hck : wr.cell? ⟨sg, St2.length, none⟩ = some (.int .i64 k) := by
        have h1 := World.ownsRow.cells HR.out.stk (g := sg) rfl St2.length (natV k) (by simp)
        rw [Addr.add_lit, Nat.zero_add] at h1
        exact h1
      have hcI : ((St2.length : Nat) : Int) ≤ 12289 := by omega
      go_wp2_with fail
      go_quiet (fail)
      go_upto_region 4 with fail
      have HR1 := hid (HR.out.more (Drawn.below (⟨nq, rfl⟩ : Drawn wr (wr.drewN nq))))
      have HMS := hid (HR.out.sim.meas (st' := st) (n := m.L.length) (by omega))
      have hfr1 := HR1.out.sim.free
      have hzM := HR1.out.sim.lt
      replace q := HR1.out.sim.cells
      clear hck HR hsgl
      generalize wr.drewN nq = x1 at *
      have HC := hid (fun (x : World) (hx : Drawn x1.drew x) => (by obtain ⟨mm, rfl⟩ := hx; exact q : (x.cell? ⟨M, 0, none⟩ = some (.slice a m.L.length c) ∧ x.cell? ⟨M, 1, none⟩ = some (.bool m.lines) ∧ x.cell? ⟨M, 2, none⟩ = some (.string str) ∧ x.cell? ⟨M, 4099, none⟩ = some (.int .i64 st) ∧ x.cell? ⟨M, 4100, none⟩ = some (.slice (some ⟨sg, 0, none⟩) (St2.length + 1) sc))))
      clear q
      refine wp_region_inv 14 (Drawn) (by kernel_rfl) (by kernel_rfl) (Drawn.refl) (fun _ _ _ => Drawn.trans) ?_
      simp only [fill, dstOf, Act.put, List.take_succ_cons, List.take_zero, List.getElem?_toArray, List.getElem?_cons_zero, List.getElem?_cons_succ, Option.bind_some, List.setIfInBounds_toArray, List.set_cons_zero, List.set_cons_succ]
      refine Plan.det 1 rfl (Drawn.refl) ?_
      apply Exists.intro
      refine ⟨fun vs x hR hF K hK => ?_, ?_⟩
      · clear hF
        go_simp
        exact hK _ _ (Drawn.refl _) rfl
      refine Plan.det 2 rfl (Drawn.refl) ?_
      apply Exists.intro
      refine ⟨fun vs x hR hF K hK => ?_, ?_⟩
      · clear hF
        go_simp
        exact hK _ _ (Drawn.refl _) rfl
      refine Plan.det 3 rfl (Drawn.refl) ?_
      apply Exists.intro
      refine ⟨fun vs x hR hF K hK => ?_, ?_⟩
      · have f1 := hF 0 _ _ rfl rfl; clear hF
        go_simp
        exact hK _ _ (Drawn.refl _) rfl
      refine Plan.det 4 rfl (Drawn.refl) ?_
      apply Exists.intro
      refine ⟨fun vs x hR hF K hK => ?_, ?_⟩
      · have f2 := hF 0 _ _ rfl rfl; clear hF
        go_simp
        exact hK _ _ (Drawn.refl _) rfl
      refine Plan.det 5 rfl (Drawn.refl) ?_
      apply Exists.intro
      refine ⟨fun vs x hR hF K hK => ?_, ?_⟩
      · have f3 := hF 0 _ _ rfl rfl; have hc := HC.out x hR; clear hF
        go_simp
        exact hK _ _ (Drawn.refl _) rfl
      refine Plan.det 6 rfl (Drawn.refl) ?_
      apply Exists.intro
      refine ⟨fun vs x hR hF K hK => ?_, ?_⟩
      · clear hF
        go_simp
        exact hK _ _ (Drawn.refl _) rfl
      refine Plan.det 7 rfl (Drawn.refl) ?_
      apply Exists.intro
      refine ⟨fun vs x hR hF K hK => ?_, ?_⟩
      · have f5 := hF 0 _ _ rfl rfl; clear hF
        go_simp
        exact hK _ _ (Drawn.refl _) rfl
      refine Plan.det 8 rfl (Drawn.refl) ?_
      apply Exists.intro
      refine ⟨fun vs x hR hF K hK => ?_, ?_⟩
      · have f6 := hF 0 _ _ rfl rfl; clear hF
        go_simp
        exact hK _ _ (Drawn.refl _) rfl
      refine Plan.det 9 rfl (Drawn.refl) ?_
      apply Exists.intro
      refine ⟨fun vs x hR hF K hK => ?_, ?_⟩
      · have f7 := hF 0 _ _ rfl rfl; have hc := HC.out x hR; clear hF
        go_simp
        exact hK _ _ (Drawn.refl _) rfl
      refine Plan.det 10 rfl (Drawn.refl) ?_
      apply Exists.intro
      refine ⟨fun vs x hR hF K hK => ?_, ?_⟩
      · have f8 := hF 0 _ _ rfl rfl; clear hF
        go_simp
        exact hK _ _ (Drawn.refl _) rfl
      refine Plan.det 11 rfl (Drawn.refl) ?_
      apply Exists.intro
      refine ⟨fun vs x hR hF K hK => ?_, ?_⟩
      · have f9 := hF 0 _ _ rfl rfl; clear hF
        go_simp
        exact hK _ _ (Drawn.refl _) rfl
      refine Plan.det 12 rfl (Drawn.refl) ?_
      apply Exists.intro
      refine ⟨fun vs x hR hF K hK => ?_, ?_⟩
      · have f4 := hF 6 _ _ rfl rfl; have f10 := hF 0 _ _ rfl rfl; clear hF
        go_simp
        exact hK _ _ (Drawn.refl _) rfl
      refine Plan.det 13 rfl (Drawn.refl) ?_
      apply Exists.intro
      refine ⟨fun vs x hR hF K hK => ?_, ?_⟩
      · have f0 := hF 11 _ _ rfl rfl; have f1 := hF 10 _ _ rfl rfl; have f2 := hF 9 _ _ rfl rfl; have f3 := hF 8 _ _ rfl rfl; have f4 := hF 7 _ _ rfl rfl; have f5 := hF 6 _ _ rfl rfl; have f6 := hF 5 _ _ rfl rfl; have f7 := hF 4 _ _ rfl rfl; have f8 := hF 3 _ _ rfl rfl; have f9 := hF 2 _ _ rfl rfl; have f10 := hF 1 _ _ rfl rfl; have f11 := hF 0 _ _ rfl rfl; clear hF
        go_simp
        exact hK _ _ (Drawn.refl _) rfl
      refine Plan.det 14 rfl (Drawn.refl) ?_
      apply Exists.intro
      refine ⟨fun vs x hR hF K hK => ?_, ?_⟩
      · have f0 := hF 12 _ _ rfl rfl; have f1 := hF 11 _ _ rfl rfl; have f2 := hF 10 _ _ rfl rfl; have f3 := hF 9 _ _ rfl rfl; have f4 := hF 8 _ _ rfl rfl; have f5 := hF 7 _ _ rfl rfl; have f6 := hF 6 _ _ rfl rfl; have f7 := hF 5 _ _ rfl rfl; have f8 := hF 4 _ _ rfl rfl; have f9 := hF 3 _ _ rfl rfl; have f10 := hF 2 _ _ rfl rfl; have f11 := hF 1 _ _ rfl rfl; have f12 := hF 0 _ _ rfl rfl; clear hF
        go_simp
        exact hK _ _ (Drawn.refl _) rfl
      refine Plan.nil (fun vs x hR hF => ?_)
      have f0 := hF 13 _ _ rfl; have f1 := hF 12 _ _ rfl; have f2 := hF 11 _ _ rfl; have f3 := hF 10 _ _ rfl; have f4 := hF 9 _ _ rfl; have f5 := hF 8 _ _ rfl; have f6 := hF 7 _ _ rfl; have f7 := hF 6 _ _ rfl; have f8 := hF 5 _ _ rfl; have f9 := hF 4 _ _ rfl; have f10 := hF 3 _ _ rfl; have f11 := hF 2 _ _ rfl; have f12 := hF 1 _ _ rfl; have f13 := hF 0 _ _ rfl
      clear hF
      simp only [f0, f1, f2, f3, f4, f5, f6, f7, f8, f9, f10, f11, f12, f13]
      clear f0 f1 f2 f3 f4 f5 f6 f7 f8 f9 f10 f11 f12 f13
      simp only [List.drop_succ_cons, List.drop_zero]
      have HR2 := hid (HR1.out.more (Drawn.below (Drawn.trans ⟨1, rfl⟩ hR : Drawn x1 x)))
      have HR3 := hid (HR2.out.pop (k := St2.length) (by simp) (Nat.le_succ _))
      have hzx : M < x.heap.size := HR2.out.sim.lt
      have hfx := HR2.out.sim.free
      have qx := HR2.out.sim.cells
      clear HR1 HC hR hfr1
      go_upto_region 5 with fail
      rw [show (St2 ++ [k]).take St2.length = St2 by simp] at HR3
      clear HR2
      generalize x.setCell ⟨M, 4100, none⟩ (.slice (some ⟨sg, 0, none⟩) St2.length sc) = y1 at *
      have q5 := HR3.out.sim.cells
      have hf5 := HR3.out.sim.free
      have hz5 := HR3.out.sim.lt
      have hmk := HR3.out.sim.mark (k := k) (by omega)
      have hk4 : (k : Int) < 4096 := by omega
      clear qx hfx hzx hwr hsc hzM
      by_cases hm : mk' k = st
      · rw [hm] at hmk
        go_quiet (fail)
        have HRX := hid (HR3.out.more (Drawn.below (⟨nq, rfl⟩ : Drawn y1 (y1.drewN nq))))
        go_wp2_with fail
        case roundEnd =>
          refine ⟨⟨mk', some ⟨sg, 0, none⟩, sc, St2, la, lc, acc, St2.length, _, rfl, rfl, rfl, HRX.out, HD.out.skip hm, HMK.out, by omega, hma⟩, ?_⟩
          show measW _ M st _ < measW wr M st _
          rw [HMS.out, HRX.out.sim.meas hn2]
          omega
      have hmb : (mk' k == st) = false := by simpa using hm
      go_quiet (fail)
      have HR4 := hid (HR3.out.more (Drawn.below (⟨nq, rfl⟩ : Drawn y1 (y1.drewN nq))))
      have hz6 := HR4.out.sim.lt
      have hf6 := HR4.out.sim.free
      replace q5 := HR4.out.sim.cells
      clear HR3 hmk hf5 hz5
      generalize y1.drewN nq = y2 at *
      go_upto_region 6 with fail
      have HC := hid (fun (x : World) (hx : Drawn y2.drew x) => (by obtain ⟨mm, rfl⟩ := hx; exact q5 : (x.cell? ⟨M, 0, none⟩ = some (.slice a m.L.length c) ∧ x.cell? ⟨M, 1, none⟩ = some (.bool m.lines) ∧ x.cell? ⟨M, 2, none⟩ = some (.string str) ∧ x.cell? ⟨M, 4099, none⟩ = some (.int .i64 st) ∧ x.cell? ⟨M, 4100, none⟩ = some (.slice (some ⟨sg, 0, none⟩) St2.length sc))))
      refine wp_region_inv 9 (Drawn) (by kernel_rfl) (by kernel_rfl) (Drawn.refl) (fun _ _ _ => Drawn.trans) ?_
      simp only [fill, dstOf, Act.put, List.take_succ_cons, List.take_zero, List.getElem?_toArray, List.getElem?_cons_zero, List.getElem?_cons_succ, Option.bind_some, List.setIfInBounds_toArray, List.set_cons_zero, List.set_cons_succ]
      refine Plan.det 1 rfl (Drawn.refl) ?_
      apply Exists.intro
      refine ⟨fun vs x hR hF K hK => ?_, ?_⟩
      · clear hF
        go_simp
        exact hK _ _ (Drawn.refl _) rfl
      refine Plan.det 2 rfl (Drawn.refl) ?_
      apply Exists.intro
      refine ⟨fun vs x hR hF K hK => ?_, ?_⟩
      · clear hF
        go_simp
        exact hK _ _ (Drawn.refl _) rfl
      refine Plan.det 3 rfl (Drawn.refl) ?_
      apply Exists.intro
      refine ⟨fun vs x hR hF K hK => ?_, ?_⟩
      · clear hF
        go_simp
        exact hK _ _ (Drawn.refl _) rfl
      refine Plan.det 4 rfl (Drawn.refl) ?_
      apply Exists.intro
      refine ⟨fun vs x hR hF K hK => ?_, ?_⟩
      · have f2 := hF 0 _ _ rfl rfl; clear hF
        go_simp
        exact hK _ _ (Drawn.refl _) rfl
      refine Plan.det 5 rfl (Drawn.refl) ?_
      apply Exists.intro
      refine ⟨fun vs x hR hF K hK => ?_, ?_⟩
      · have f3 := hF 0 _ _ rfl rfl; clear hF
        go_simp
        exact hK _ _ (Drawn.refl _) rfl
      refine Plan.det 6 rfl (Drawn.refl) ?_
      apply Exists.intro
      refine ⟨fun vs x hR hF K hK => ?_, ?_⟩
      · have f4 := hF 0 _ _ rfl rfl; have hc := HC.out x hR; clear hF
        go_simp
        exact hK _ _ (Drawn.refl _) rfl
      refine Plan.det 7 rfl (Drawn.refl) ?_
      apply Exists.intro
      refine ⟨fun vs x hR hF K hK => ?_, ?_⟩
      · have f0 := hF 5 _ _ rfl rfl; clear hF
        go_simp
        exact hK _ _ (Drawn.refl _) rfl
      refine Plan.det 8 rfl (Drawn.refl) ?_
      apply Exists.intro
      refine ⟨fun vs x hR hF K hK => ?_, ?_⟩
      · have f6 := hF 0 _ _ rfl rfl; clear hF
        go_simp
        exact hK _ _ (Drawn.refl _) rfl
      refine Plan.det 9 rfl (Drawn.refl) ?_
      apply Exists.intro
      refine ⟨fun vs x hR hF K hK => ?_, ?_⟩
      · have f0 := hF 7 _ _ rfl rfl; have f1 := hF 6 _ _ rfl rfl; have f2 := hF 5 _ _ rfl rfl; have f3 := hF 4 _ _ rfl rfl; have f4 := hF 3 _ _ rfl rfl; have f5 := hF 2 _ _ rfl rfl; have f7 := hF 0 _ _ rfl rfl; clear hF
        go_simp
        exact hK _ _ (Drawn.refl _) rfl
      refine Plan.nil (fun vs x hR hF => ?_)
      have f0 := hF 8 _ _ rfl; have f1 := hF 7 _ _ rfl; have f2 := hF 6 _ _ rfl; have f3 := hF 5 _ _ rfl; have f4 := hF 4 _ _ rfl; have f5 := hF 3 _ _ rfl; have f6 := hF 2 _ _ rfl; have f7 := hF 1 _ _ rfl; have f8 := hF 0 _ _ rfl
      clear hF
      simp only [f0, f1, f2, f3, f4, f5, f6, f7, f8]
      clear f0 f1 f2 f3 f4 f5 f6 f7 f8
      simp only [List.drop_succ_cons, List.drop_zero]
      have HR5 := hid (HR4.out.more (Drawn.below (Drawn.trans ⟨1, rfl⟩ hR : Drawn y2 x)))
      have HR6 := hid (HR5.out.mark (k := k) (by omega) st)
      have hzx := HR5.out.sim.lt
      have hfx := HR5.out.sim.free
      have hmkx := HR5.out.sim.mark (k := k) (by omega)
      clear HR4 HC hR q5 hf6 hz6
      obtain ⟨fb, fo, hfa, hfb, hfc⟩ := HE.out.ins.at hkn
      have hfi := Sim.inst_eq hkn
      have hri := Sim.right_of HE.out.right hkn
      have hunv := unv_less mk' st k hm m.L.length hkn
      have hnl : ∀ h : m.leaf k, m.eps i k = [] := Sim.leaf_eps
      have HVI := hid (upd_old HMK.out k)
      have HDV : Hid (¬ m.leaf k → m.Dfs i r0 (fun k => mk k = st) (fun j => upd1 mk' k st j = st) (St2 ++ m.eps i k) acc) := by
        intro hl
        rw [upd_V]
        exact HD.out.visit hm hl
      have HDT : Hid (m.leaf k → m.Dfs i r0 (fun k => mk k = st) (fun j => upd1 mk' k st j = st) St2 (acc ++ [k])) := by
        intro hl
        rw [upd_V]
        exact HD.out.take hm hl
      have HF : Hid (∀ w', Below wb.heap.size wb w' → CellsAt w' fb (fo + k * 7) (m.L[k].cells)) := by
        intro w' hb' j v hj
        rw [hb'.cell (p := ⟨fb, fo + k * 7 + j, none⟩) hfb]
        exact hfc j v hj
      clear hfc
      subst hfa
      have HEQ := hid (show m.eps i k = if (m.inst k).op = 3 then [(m.inst k).x.toNat] else if (m.inst k).op = 2 then [(m.inst k).y.toNat, (m.inst k).x.toNat] else
        if (m.inst k).op = 4 then (if m.begins i = true then [k + 1] else []) else if (m.inst k).op = 5 then (if m.ends i = true then [k + 1] else []) else [] from rfl)
      have HLF : Hid (m.leaf k ↔ (m.inst k).op = 1 ∨ (m.inst k).op = 6) := Iff.rfl
      rw [hfi] at hri HEQ HLF
      generalize m.L[k] = f at *
      obtain ⟨fop, fset, fx, fy⟩ := f
      have HF2 : Hid (∀ w', Below wb.heap.size wb w' → CellsAt w' fb (fo + k * 7) [.int .i64 fop, .int .u64 fset.a, .int .u64 fset.b, .int .u64 fset.c, .int .u64 fset.d, .int .i64 fx, .int .i64 fy]) := HF.out
      clear HF hfi hnl HD
      simp only at hri HEQ HLF
      unfold Inst.right at hri
      simp only at hri
      go_upto_region 7 with fail
      clear HR5 hmkx
      generalize x.setCell ⟨M, 3 + k, none⟩ (.int .i64 st) = y3 at *
      have q7 := cells7 (HF2.out y3 HR6.out.low)
      have q3 := HR6.out.sim.cells
      have hz7 := HR6.out.sim.lt
      clear hfx hzx
      go_upto_region 8 with fail
      have HBX : Hid (Row (y3.alloc (.cells #[.int .i64 fop, .int .u64 fset.a, .int .u64 fset.b, .int .u64 fset.c, .int .u64 fset.d, .int .i64 fx, .int .i64 fy] 87)) y3.heap.size [.int .i64 fop, .int .u64 fset.a, .int .u64 fset.b, .int .u64 fset.c, .int .u64 fset.d, .int .i64 fx, .int .i64 fy] 87) := Row.at y3 [.int .i64 fop, .int .u64 fset.a, .int .u64 fset.b, .int .u64 fset.c, .int .u64 fset.d, .int .i64 fx, .int .i64 fy] _
      have HR7 := hid (HR6.out.more ((Below.refl _ y3).alloc (Nat.le_refl _) (.cells #[.int .i64 fop, .int .u64 fset.a, .int .u64 fset.b, .int .u64 fset.c, .int .u64 fset.d, .int .i64 fx, .int .i64 fy] 87)))
      clear HR6 HF2 q7 q3 hz7
      generalize y3.alloc (.cells #[.int .i64 fop, .int .u64 fset.a, .int .u64 fset.b, .int .u64 fset.c, .int .u64 fset.d, .int .i64 fx, .int .i64 fy] 87) = y4 at *
      generalize y3.heap.size = bx at *
      have q8 := row7 HBX.out
      have q4 := HR7.out.sim.cells
      have hz8 := HR7.out.sim.lt
      have hf8 := HR7.out.sim.free
      have hkI : (k : Int) ≤ 4096 := by omega
      have hcase : fop = 3 ∨ fop = 2 ∨ fop = 4 ∨ fop = 5 ∨ (fop = 1 ∨ fop = 6) := by omega
      rcases hcase with ho | ho | ho | ho | ho
      · obtain ⟨xn, rfl⟩ : ∃ n : Nat, fx = n := ⟨fx.toNat, by omega⟩
        have HEP : Hid (m.eps i k = [xn]) := by show _ = _; rw [HEQ.out, if_pos ho]; simp
        have d1 : (fop == 3) = true := by simp [ho]
        have HO := hid ho
        clear ho
        go_upto_region 11 with fail
        obtain ⟨i0, hi0, hz0, hz1, hz2⟩ := info_parts info_int
        have HNEW : Hid (∀ j u, ([.int .i64 xn] : List Value)[j]? = some u → (y4.drew.alloc (.cells #[.int .i64 xn] 3)).cell? ((⟨y4.heap.size, 0, none⟩ : Addr).add j) = some u) := by
          intro j u hj
          have h1 := Row.cell (Row.at y4.drew [.int .i64 xn] 3) j
          rw [hj] at h1
          simpa [Addr.add_lit] using h1
        have HOWN : Hid ((y4.drew.alloc (.cells #[.int .i64 xn] 3)).ownsRow wb.heap.size 3 1 (.slice (some ⟨sg, 0, none⟩) St2.length sc) St2.length (St2.map natV)) := World.ownsRow.alloc (show y4.drew.ownsRow _ _ _ _ _ _ from HR7.out.stk) _
        have HONE : Hid (∀ u ∈ ([.int .i64 xn] : List Value), u.oneCell' = true) := by
          intro u hu
          simp at hu
          rcases hu with rfl | rfl <;> rfl
        have HB1 : Hid (St2.length + 1 ≤ maxLen) := by show _ ≤ _; unfold maxLen; omega
        have HB2 : Hid ((St2.length + 1) * 8 ≤ 140737488355328) := by show _ ≤ _; omega
        have HB3 : Hid (wb.heap.size ≤ (y4.drew.alloc (.cells #[.int .i64 xn] 3)).heap.size) := by
          show _ ≤ _
          have := HR7.out.low.size
          simp
          omega
        have HR8 := hid (HR7.out.more (Below.alloc (Below.drew (Below.refl _ y4)) (Nat.le_refl _) (.cells #[.int .i64 xn] 3)))
        have q9 := HR8.out.sim.cells
        go_region_law (refine step_append_lies _ rfl (.tmp 98) (.tmp 101) 69 rfl wb.heap.size 3 i0 (.int .i64 0) 1 8 Try.underlying69 hi0 hz0 hz1 hz2 rfl (by decide) (.slice (some ⟨sg, 0, none⟩) St2.length sc) St2.length (St2.map natV) (by simp [Act.eval]) HOWN.out ⟨y4.heap.size, 0, none⟩ 1 1 [.int .i64 xn] (by simp [Act.eval]) rfl HNEW.out HONE.out (by decide) HB1.out HB2.out HB3.out _ rfl ?_; intro g9 c9 w9 hown hgrow hat hlt; have hs9 := HR8.out.simGrown hgrow; have q10 := hs9.cells; have hz10 := hs9.lt; have hf10 := hs9.free; have HR9 := hid (HR8.out.push (St' := St2 ++ [xn]) (by rw [List.length_append, List.map_append]; exact hown) hgrow (own_at hat)); clear hown hgrow hat hs9)
        all_goals
          clear HNEW HOWN HONE HB1 HB2 HB3 HR8 HR7 HBX q4 q8 hz8 hf8 q9 hi0 hz0 hz1 hz2
          clear i0
          go_wp2_with fail
          case roundEnd =>
            refine ⟨⟨upd1 mk' k st, some ⟨g9, 0, none⟩, c9, St2 ++ [xn], la, lc, acc, St2.length + 1, _, rfl, rfl, by simp, HR9.out, ?_, HVI.out, by omega, by omega⟩, ?_⟩
            · have hv := HDV.out (fun hl => by have := HLF.out.1 hl; have := HO.out; omega)
              rw [HEP.out] at hv
              exact hv
            · show measW _ M st _ < measW wr M st _
              rw [HMS.out, HR9.out.sim.meas hn2]
              omega
      · obtain ⟨xn, rfl⟩ : ∃ n : Nat, fx = n := ⟨fx.toNat, by omega⟩
        obtain ⟨yn, rfl⟩ : ∃ n : Nat, fy = n := ⟨fy.toNat, by omega⟩
        have HEP : Hid (m.eps i k = [yn, xn]) := by show _ = _; rw [HEQ.out, if_neg (by omega), if_pos ho]; simp
        have d1 : (fop == 3) = false := by simp [ho]
        have d2 : (fop == 2) = true := by simp [ho]
        have HO := hid ho
        clear ho
        go_upto_region 13 with fail
        obtain ⟨i0, hi0, hz0, hz1, hz2⟩ := info_parts info_int
        have HNEW : Hid (∀ j u, ([.int .i64 yn, .int .i64 xn] : List Value)[j]? = some u → (y4.drew.alloc (.cells #[.int .i64 yn, .int .i64 xn] 3)).cell? ((⟨y4.heap.size, 0, none⟩ : Addr).add j) = some u) := by
          intro j u hj
          have h1 := Row.cell (Row.at y4.drew [.int .i64 yn, .int .i64 xn] 3) j
          rw [hj] at h1
          simpa [Addr.add_lit] using h1
        have HOWN : Hid ((y4.drew.alloc (.cells #[.int .i64 yn, .int .i64 xn] 3)).ownsRow wb.heap.size 3 1 (.slice (some ⟨sg, 0, none⟩) St2.length sc) St2.length (St2.map natV)) := World.ownsRow.alloc (show y4.drew.ownsRow _ _ _ _ _ _ from HR7.out.stk) _
        have HONE : Hid (∀ u ∈ ([.int .i64 yn, .int .i64 xn] : List Value), u.oneCell' = true) := by
          intro u hu
          simp at hu
          rcases hu with rfl | rfl <;> rfl
        have HB1 : Hid (St2.length + 2 ≤ maxLen) := by show _ ≤ _; unfold maxLen; omega
        have HB2 : Hid ((St2.length + 2) * 8 ≤ 140737488355328) := by show _ ≤ _; omega
        have HB3 : Hid (wb.heap.size ≤ (y4.drew.alloc (.cells #[.int .i64 yn, .int .i64 xn] 3)).heap.size) := by
          show _ ≤ _
          have := HR7.out.low.size
          simp
          omega
        have HR8 := hid (HR7.out.more (Below.alloc (Below.drew (Below.refl _ y4)) (Nat.le_refl _) (.cells #[.int .i64 yn, .int .i64 xn] 3)))
        have q9 := HR8.out.sim.cells
        go_region_law (refine step_append_lies _ rfl (.tmp 111) (.tmp 116) 69 rfl wb.heap.size 3 i0 (.int .i64 0) 1 8 Try.underlying69 hi0 hz0 hz1 hz2 rfl (by decide) (.slice (some ⟨sg, 0, none⟩) St2.length sc) St2.length (St2.map natV) (by simp [Act.eval]) HOWN.out ⟨y4.heap.size, 0, none⟩ 2 2 [.int .i64 yn, .int .i64 xn] (by simp [Act.eval]) rfl HNEW.out HONE.out (by decide) HB1.out HB2.out HB3.out _ rfl ?_; intro g9 c9 w9 hown hgrow hat hlt; have hs9 := HR8.out.simGrown hgrow; have q10 := hs9.cells; have hz10 := hs9.lt; have hf10 := hs9.free; have HR9 := hid (HR8.out.push (St' := St2 ++ [yn, xn]) (by rw [List.length_append, List.map_append]; exact hown) hgrow (own_at hat)); clear hown hgrow hat hs9)
        all_goals
          clear HNEW HOWN HONE HB1 HB2 HB3 HR8 HR7 HBX q4 q8 hz8 hf8 q9 hi0 hz0 hz1 hz2
          clear i0
          go_wp2_with fail
          case roundEnd =>
            refine ⟨⟨upd1 mk' k st, some ⟨g9, 0, none⟩, c9, St2 ++ [yn, xn], la, lc, acc, St2.length + 2, _, rfl, rfl, by simp, HR9.out, ?_, HVI.out, by omega, by omega⟩, ?_⟩
            · have hv := HDV.out (fun hl => by have := HLF.out.1 hl; have := HO.out; omega)
              rw [HEP.out] at hv
              exact hv
            · show measW _ M st _ < measW wr M st _
              rw [HMS.out, HR9.out.sim.meas hn2]
              omega
      · have HO := hid ho
        have d1 : (fop == 3) = false := by simp [ho]
        have d2 : (fop == 2) = false := by simp [ho]
        have d4 : (fop == 4) = true := by simp [ho]
        clear ho
        go_wp2_with fail
        refine (begins_any y4 m M _ _ c str _ st _ i HR7.out.sim HE.out.s (by omega) HE.out.short).mono ?_
        rintro e w5 ⟨rfl, rfl⟩
        rcases Bool.eq_false_or_eq_true (m.begins i) with hb | hb
        · have HEP : Hid (m.eps i k = [k + 1]) := by
            show _ = _
            rw [HEQ.out, if_neg (by have := HO.out; omega), if_neg (by have := HO.out; omega), if_pos HO.out]
            rw [if_pos hb]
          rw [hb]
          obtain ⟨i0, hi0, hz0, hz1, hz2⟩ := info_parts info_int
          have HR8 := hid (HR7.out.more ((Below.refl _ w5).alloc (Nat.le_refl _) (.cells #[.int .i64 (k + 1)] 3)))
          have hB5 := HR7.out.low.size
          go_wp2_with (at_builtin; refine wpList_append_row rfl _ _ 69 rfl wb.heap.size 3 i0 (.int .i64 0) 1 8 Try.underlying69 hi0 hz0 hz1 hz2 rfl (by decide) _ St2.length (St2.map natV) rfl HR8.out.stk ⟨w5.heap.size, 0, none⟩ 1 1 [.int .i64 (k + 1)] rfl rfl (cell_one_new _ _ _) (by simp [Value.oneCell']) (by unfold maxLen; omega) (by omega) (by simp; omega) (by decide) ?_)
          intro a9 c9 w9 hown hgrow hnw
          have hs9 := HR8.out.simGrown hgrow
          have q10 := hs9.cells
          have hz10 := hs9.lt
          have hf10 := hs9.free
          have HR9 := hid (HR8.out.push (St' := St2 ++ [k + 1]) (by rw [List.length_append, List.map_append]; simpa [natV] using hown) hgrow (fun g hg => (hnw g hg).imp id (fun h => by simpa using h)))
          clear hown hgrow hnw hs9 HR8 HR7 HBX q4 q8 hz8 hf8 hi0 hz0 hz1 hz2
          clear i0
          go_wp2_with fail
          case roundEnd =>
            refine ⟨⟨upd1 mk' k st, a9, c9, St2 ++ [k + 1], la, lc, acc, St2.length + 1, _, rfl, rfl, by simp, HR9.out, ?_, HVI.out, by omega, by omega⟩, ?_⟩
            · have hv := HDV.out (fun hl => by have := HLF.out.1 hl; have := HO.out; omega)
              rw [HEP.out] at hv
              exact hv
            · show measW _ M st _ < measW wr M st _
              rw [HMS.out, HR9.out.sim.meas hn2]
              omega
        · have HEP : Hid (m.eps i k = []) := by
            show _ = _
            rw [HEQ.out, if_neg (by have := HO.out; omega), if_neg (by have := HO.out; omega), if_pos HO.out]
            rw [if_neg (by rw [hb]; simp)]
          rw [hb]
          go_wp2_with fail
          case roundEnd =>
            refine ⟨⟨upd1 mk' k st, some ⟨sg, 0, none⟩, sc, St2, la, lc, acc, St2.length, _, rfl, rfl, rfl, HR7.out, ?_, HVI.out, by omega, by omega⟩, ?_⟩
            · have hv := HDV.out (fun hl => by have := HLF.out.1 hl; have := HO.out; omega)
              rw [HEP.out, List.append_nil] at hv
              exact hv
            · show measW _ M st _ < measW wr M st _
              rw [HMS.out, HR7.out.sim.meas hn2]
              omega
      · have HO := hid ho
        have d1 : (fop == 3) = false := by simp [ho]
        have d2 : (fop == 2) = false := by simp [ho]
        have d4 : (fop == 4) = false := by simp [ho]
        have d5 : (fop == 5) = true := by simp [ho]
        clear ho
        go_wp2_with fail
        refine (ends_any y4 m M _ _ c str _ st _ i HR7.out.sim HE.out.s (by omega) HE.out.short).mono ?_
        rintro e w5 ⟨rfl, rfl⟩
        rcases Bool.eq_false_or_eq_true (m.ends i) with hb | hb
        · have HEP : Hid (m.eps i k = [k + 1]) := by
            show _ = _
            rw [HEQ.out, if_neg (by have := HO.out; omega), if_neg (by have := HO.out; omega), if_neg (by have := HO.out; omega), if_pos HO.out]
            rw [if_pos hb]
          rw [hb]
          obtain ⟨i0, hi0, hz0, hz1, hz2⟩ := info_parts info_int
          have HR8 := hid (HR7.out.more ((Below.refl _ w5).alloc (Nat.le_refl _) (.cells #[.int .i64 (k + 1)] 3)))
          have hB5 := HR7.out.low.size
          go_wp2_with (at_builtin; refine wpList_append_row rfl _ _ 69 rfl wb.heap.size 3 i0 (.int .i64 0) 1 8 Try.underlying69 hi0 hz0 hz1 hz2 rfl (by decide) _ St2.length (St2.map natV) rfl HR8.out.stk ⟨w5.heap.size, 0, none⟩ 1 1 [.int .i64 (k + 1)] rfl rfl (cell_one_new _ _ _) (by simp [Value.oneCell']) (by unfold maxLen; omega) (by omega) (by simp; omega) (by decide) ?_)
          intro a9 c9 w9 hown hgrow hnw
          have hs9 := HR8.out.simGrown hgrow
          have q10 := hs9.cells
          have hz10 := hs9.lt
          have hf10 := hs9.free
          have HR9 := hid (HR8.out.push (St' := St2 ++ [k + 1]) (by rw [List.length_append, List.map_append]; simpa [natV] using hown) hgrow (fun g hg => (hnw g hg).imp id (fun h => by simpa using h)))
          clear hown hgrow hnw hs9 HR8 HR7 HBX q4 q8 hz8 hf8 hi0 hz0 hz1 hz2
          clear i0
          go_wp2_with fail
          case roundEnd =>
            refine ⟨⟨upd1 mk' k st, a9, c9, St2 ++ [k + 1], la, lc, acc, St2.length + 1, _, rfl, rfl, by simp, HR9.out, ?_, HVI.out, by omega, by omega⟩, ?_⟩
            · have hv := HDV.out (fun hl => by have := HLF.out.1 hl; have := HO.out; omega)
              rw [HEP.out] at hv
              exact hv
            · show measW _ M st _ < measW wr M st _
              rw [HMS.out, HR9.out.sim.meas hn2]
              omega
        · have HEP : Hid (m.eps i k = []) := by
            show _ = _
            rw [HEQ.out, if_neg (by have := HO.out; omega), if_neg (by have := HO.out; omega), if_neg (by have := HO.out; omega), if_pos HO.out]
            rw [if_neg (by rw [hb]; simp)]
          rw [hb]
          go_wp2_with fail
          case roundEnd =>
            refine ⟨⟨upd1 mk' k st, some ⟨sg, 0, none⟩, sc, St2, la, lc, acc, St2.length, _, rfl, rfl, rfl, HR7.out, ?_, HVI.out, by omega, by omega⟩, ?_⟩
            · have hv := HDV.out (fun hl => by have := HLF.out.1 hl; have := HO.out; omega)
              rw [HEP.out, List.append_nil] at hv
              exact hv
            · show measW _ M st _ < measW wr M st _
              rw [HMS.out, HR7.out.sim.meas hn2]
              omega
      · have HO := hid ho
        have d1 : (fop == 3) = false := by simp; omega
        have d2 : (fop == 2) = false := by simp; omega
        have d4 : (fop == 4) = false := by simp; omega
        have d5 : (fop == 5) = false := by simp; omega
        clear ho
        obtain ⟨i0, hi0, hz0, hz1, hz2⟩ := info_parts info_thread
        have HR8 := hid (HR7.out.more ((Below.refl _ y4).alloc (Nat.le_refl _) (.cells #[.int .i64 k, .int .i64 fr] 96)))
        have hB5 := HR7.out.low.size
        have hll := HT.out
        have hlst : (y4.alloc (.cells #[.int .i64 k, .int .i64 fr] 96)).ownsRow wb.heap.size 96 2 (.slice la (T.length + acc.length) lc) (T.length + acc.length) ((T ++ acc.map fun k => (k, fr)).flatMap tcells) := by
          have := HR8.out.lst
          rw [List.length_append, List.length_map] at this
          exact this
        have HLST := hid hlst
        clear hlst
        go_wp2_with (at_builtin; refine wpList_append_row rfl _ _ 93 rfl wb.heap.size 96 i0 (.agg #[.int .i64 0, .int .i64 0]) 2 16 Try.underlying93 hi0 hz0 hz1 hz2 rfl (by decide) _ (T.length + acc.length) ((T ++ acc.map fun k => (k, fr)).flatMap tcells) rfl HLST.out ⟨y4.heap.size, 0, none⟩ 1 1 [.int .i64 k, .int .i64 fr] rfl rfl ?g1 ?g2 ?g3 ?g4 ?g5 (by decide) ?_)
        case g1 =>
          intro j u hj
          have h1 := Row.cell (Row.at y4 [.int .i64 k, .int .i64 fr] 96) j
          rw [hj] at h1
          simpa [Addr.add_lit] using h1
        case g2 => simp [Value.oneCell']
        case g3 => unfold maxLen; omega
        case g4 => omega
        case g5 => simp; omega
        intro a9 c9 w9 hown hgrow hnw
        have HR9 := hid (HR8.out.add (t := (k, fr)) (by rw [List.length_append, List.length_map, List.flatMap_append, List.append_assoc]; exact hown) hgrow (fun g hg => (hnw g hg).imp id (fun h => by simpa using h)))
        clear hown hgrow hnw HR8 HR7 HBX q4 q8 hz8 hf8 hi0 hz0 hz1 hz2 HLST
        clear i0
        go_wp2_with fail
        case roundEnd =>
          have hlf := HLF.out.2 HO.out
          refine ⟨⟨upd1 mk' k st, some ⟨sg, 0, none⟩, sc, St2, a9, c9, acc ++ [k], St2.length, T.length + acc.length + 1, rfl, by simp; omega, rfl, ?_, HDT.out hlf, HVI.out, by omega, by simp; omega⟩, ?_⟩
          · refine hid ?_
            rw [List.map_append, ← List.append_assoc]
            exact HR9.out
          · show measW _ M st _ < measW wr M st _
            rw [HMS.out, HR9.out.sim.meas hn2]
            omega
end Go.Proofs.Ythnpbopnpdlmnaa
