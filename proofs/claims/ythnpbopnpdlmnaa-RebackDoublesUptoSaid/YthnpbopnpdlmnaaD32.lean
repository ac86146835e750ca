/- Reback: a repetition, and what follows in it. -/
import Derived.Test.YthnpbopnpdlmnaaD30
import Derived.Test.YthnpbopnpdlmnaaD31
namespace Go.Proofs.Ythnpbopnpdlmnaa
open Go.RowKit
attribute [local go_sem] gives givesUpon
variable {C : Ctx}

theorem unset_length : ∀ (gs : List Nat) (sp : Spans), (unset sp gs).length = sp.length
  | [], sp => rfl
  | g :: gs, sp => by
    show (unset (sp.set (g - 1) (-1, -1)) gs).length = _
    rw [unset_length gs, List.length_set]
theorem unset_take (sp : Spans) (gs : List Nat) (k : Nat) (h : k < gs.length) : unset sp (gs.take (k + 1)) = (unset sp (gs.take k)).set (gs[k] - 1) (-1, -1) := by
  unfold unset
  rw [List.take_add_one, List.getElem?_eq_getElem h, List.foldl_append]
  rfl
theorem unset_ok {N L : Nat} : ∀ (gs : List Nat) {sp : Spans}, SpOk N L sp → SpOk N L (unset sp gs)
  | [], sp, h => h
  | g :: gs, sp, h => by
    refine unset_ok gs (sp := sp.set (g - 1) (-1, -1)) ⟨by rw [List.length_set]; exact h.1, fun x hx => ?_⟩
    rcases List.mem_or_eq_of_mem_set hx with hx | hx
    · exact h.2 x hx
    · exact .inl hx
mutual
theorem within_ok (N : Nat) : ∀ t : Re, t.ok N → ∀ g, g ∈ withinOf t → 1 ≤ g ∧ g ≤ N
  | .mk p xs, h, g, hg => by
    rw [Re.ok] at h
    rw [withinOf, List.mem_append] at hg
    rcases hg with hg | hg
    · split at hg
      · rename_i h6
        have := h.2.2.2.1 (.inl h6)
        have := List.mem_singleton.1 hg
        omega
      · cases hg
    · exact withinAll_ok N xs h.2.2.2.2 g hg
theorem withinAll_ok (N : Nat) : ∀ xs : List Re, Re.oks N xs → ∀ g, g ∈ withinAll xs → 1 ≤ g ∧ g ≤ N
  | [], h, g, hg => by rw [withinAll] at hg; cases hg
  | t :: ts, h, g, hg => by
    rw [Re.oks] at h
    rw [withinAll, List.mem_append] at hg
    rcases hg with hg | hg
    · exact within_ok N t h.1 g hg
    · exact withinAll_ok N ts h.2 g hg
end

set_option maxRecDepth 100000 in
set_option maxHeartbeats 8000000 in
theorem without_any (w : World) (p : Nat → Prop) (sv : Value) (sp : Spans) (h : SpB p w sv sp) (S : List Nat) (gv : Value) (gs : List Nat) (hg : NumsAt S w gv gs) (hgs : ∀ g, g ∈ gs → 1 ≤ g ∧ g ≤ sp.length) (hl : sp.length ≤ 9) (hn : gs.length ≤ 1000001) :
    Calls Try.prog 102 #[sv, gv] w fun e w' => ∃ a c, e = .returned (.slice a sp.length c) ∧ Below w.heap.size w w' ∧ SpB (w.heap.size ≤ ·) w' (.slice a sp.length c) (unset sp gs) := by
  have HCL := hid (cloneS_any w p sv sp h hl)
  obtain ⟨sa, sc, rfl⟩ := h.form
  obtain ⟨ga, gc, rfl, hgm⟩ := hg
  have HGM := hid hgm
  have HGS := hid hgs
  clear h hgm hgs
  go_enter Try.func102, Try.ntmps102
  go_wp2_with fail
  refine HCL.out.mono ?_
  rintro e w1 ⟨a1, c1, rfl, hb1, hsp⟩
  have HB1 := hid hb1
  have HSP := hid hsp
  clear hb1 hsp HCL
  go_wp2_with fail
  go_loopw [12] (fun v wr => ∃ k : Nat, k ≤ gs.length ∧ v = .int .i64 k ∧ Hid (SpB (w.heap.size ≤ ·) wr (.slice a1 sp.length c1) (unset sp (gs.take k)) ∧ Below w.heap.size w wr)) (fun v _ => gs.length - (intOf v).toNat)
  case atStart => exact ⟨0, Nat.zero_le _, rfl, HSP.out, HB1.out⟩
  case round =>
    obtain ⟨k, hk, rfl, HX⟩ := hrel
    by_cases hlt : k < gs.length
    · have hltI : (k : Int) < gs.length := by omega
      rcases HGM.out with h0 | ⟨gb, gcs, rfl, hgS, hgr, hgc⟩
      · rw [h0] at hlt; simp at hlt
      have hg1 := HGS.out gs[k] (List.getElem_mem _)
      have hcell : wr.cell? ⟨gb, k, none⟩ = some (.int .i64 (gs[k] : Int)) := by
        rw [(hgr.below HX.out.2 hgr.lt).cell, hgc k gs[k] (by simp [hlt])]
      rcases HX.out.1 with ⟨h0, -⟩ | ⟨hne, b1, c1', more, e, hb2, hrow⟩
      · have := unset_length (gs.take k) sp; rw [h0, List.length_nil] at this; omega
      have hul := unset_length (gs.take k) sp
      injection e with e1 _ e2
      have HE := HX
      clear HX
      subst e1
      obtain ⟨g, hge, hgl⟩ : ∃ g : Nat, (gs[k] : Int) - 1 = (g : Int) ∧ g < (unset sp (gs.take k)).length := ⟨gs[k] - 1, by omega, by rw [hul]; omega⟩
      have hgi : (g : Int) < (sp.length : Int) := by omega
      have hx := spc_get _ g (unset sp (gs.take k))[g] (by rw [List.getElem?_eq_getElem hgl])
      have hsl := spc_length (unset sp (gs.take k))
      have s0 := hrow.cell (g * 2)
      have s1 := hrow.cell (g * 2 + 1)
      rw [List.getElem?_append_left (by omega), show g * 2 = 2 * g by omega, hx.1, show 2 * g = g * 2 by omega] at s0
      rw [List.getElem?_append_left (by omega), show g * 2 + 1 = 2 * g + 1 by omega, hx.2, show 2 * g + 1 = g * 2 + 1 by omega] at s1
      have f0 := hrow.free (g * 2)
      have f1 := hrow.free (g * 2 + 1)
      have HROW := hid hrow
      have HUL := hid hul
      have HUT := hid (unset_take sp gs k hlt)
      have hgk : gs[k] - 1 = g := by omega
      have HGK := hid hgk
      have hgb : (gs[k] : Int) ≤ 9 := by omega
      clear hx hrow hsl e2 hul hgk hgr hgc
      generalize gs[k] = g1 at *
      generalize (unset sp (gs.take k))[g] = x0 at *
      go_wp2_with fail
      refine ⟨⟨k + 1, by omega, by go_num, ?_, (HE.out.2.setCell (p := ⟨b1, g * 2, none⟩) hb2 _).setCell (p := ⟨b1, g * 2 + 1, none⟩) hb2 _⟩, ?_⟩
      · refine .inr ⟨?_, b1, c1, more, ?_, hb2, ?_⟩
        · intro e; have := congrArg List.length e; rw [unset_length, List.length_nil] at this; omega
        · rw [unset_length]
        · rw [HUT.out, HGK.out]
          exact HROW.out.span hgl (-1, -1)
      · simp [intOf]; omega
    · obtain rfl : k = gs.length := by omega
      go_wp2_with fail
      go_ret
      rw [List.take_length] at HX
      exact ⟨a1, c1, rfl, HX.out.2, HX.out.1⟩

def RepC (C : Ctx) (n : Nat) (K : Kont) : Prop := ∀ (w : World) (p : Pay) (x0 : Re) (ta : Option Addr) (tc i0 : Nat) (sa0 : Option Addr) (sn0 sc0 : Nat) (ga : Option Addr) (gc c i k : Nat) (sp : Spans) (sa : Option Addr) (sc fid : Nat) (cap : Array Value), p.op = 5 → (Re.mk p [x0]).In C.w0 (p.cells (.slice ta 1 tc)) → (Re.mk p [x0]).ok C.N → c ≤ C.B - n → i ≤ k → k ≤ C.s.size →
  NumsAt C.S w (.slice ga (withinOf x0).length gc) (withinOf x0) → Pre C n (C.B - n) sp K (.slice sa sp.length sc) (.func (.func fid) #[] cap) w →
  Calls Try.prog 83 #[.pointer (some ⟨C.M, 0, none⟩), .agg (p.task (.slice ta 1 tc) (.int .i64 i0) (.int .i64 k) (.slice sa0 sn0 sc0) (.func (.func fid) #[] cap)).toArray, .slice ga (withinOf x0).length gc, .int .i64 c, .int .i64 i, .slice sa sp.length sc] w (Good C (Ev C.str C.lines (.rep p x0 c i k) sp K n) w)

def RepL (C : Ctx) (w : World) (n : Nat) (p : Pay) (x0 : Re) (c i k : Nat) (sp : Spans) (K : Kont) (gv : Value) (TKL XL : List Value) (sv nv : Value) (jb : Nat) (J : Int) (q : Nat) (wr : World) : Prop :=
  (Row wr w.heap.size [.pointer (some ⟨C.M, 0, none⟩)] 109 ∧ Row wr (w.heap.size + 1) TKL 138 ∧ Row wr (w.heap.size + 2) [gv] 69 ∧ Row wr (w.heap.size + 3) [.int .i64 c] 3 ∧ Row wr (w.heap.size + 4) XL 28 ∧ Row wr jb [.int .i64 J] 3) ∧ w.heap.size + 4 < jb ∧ J = (repLow p c i : Int) + q - 1 ∧
  EndsL C w n (Ev C.str C.lines (.rep p x0 c i k) sp K n) (fun n' q => Ev C.str C.lines (.repj p x0 c i k (repLow p c i) q) sp K n') sp K sv nv q false wr

set_option maxRecDepth 100000 in
set_option maxHeartbeats 16000000 in
theorem rep_any (n : Nat) (K : Kont) (HT : ∀ m, m ≤ n → TryC C m) (HN : ∀ m, m ≤ n → NextC C m K) : RepC C n K := by
  intro w p x0 ta tc i0 sa0 sn0 sc0 ga gc c i k sp sa sc fid cap ho hin hok hc hik hks hgn h
  have hwf := hin.wf
  rw [Re.In] at hin
  obtain ⟨ad, cp, e, -, hcl, hcm, -, hall⟩ := hin
  simp only [Pay.cells, List.cons.injEq, Value.slice.injEq] at e
  obtain ⟨-, -, -, -, -, -, -, -, ⟨rfl, -, rfl⟩, -⟩ := e
  obtain ⟨b, o, p', ad, n', c', rfl, hxc, hx, hbw⟩ := hall.first (Below.refl _ _)
  have hok' := hok
  rw [Re.ok, Re.oks] at hok'
  have HX0 := hid hok'.2.2.2.2.1
  have HOKK := hid hok
  have HO := hid ho
  have HINN : Hid ((Re.mk p [x0]).In C.w0 (p.cells (.slice (some ⟨b, o, none⟩) 1 tc))) := by
    show Re.In _ _ _
    rw [Re.In]
    exact ⟨_, _, rfl, hwf, hcl, hcm, (fun e => by cases e), hall⟩
  have hbig := h.st.big
  have hfew := h.st.few
  have hsl := h.st.len
  have R0 : Row (((((w.alloc (.cells #[.pointer (some ⟨C.M, 0, none⟩)] 109)).alloc (.cells #[.int .i64 p.op, .int .u64 p.set.a, .int .u64 p.set.b, .int .u64 p.set.c, .int .u64 p.set.d, .int .i64 p.lo, .int .i64 p.hi, .int .i64 p.gr, .slice (some ⟨b, o, none⟩) 1 tc, .int .i64 i0, .int .i64 k, .slice sa0 sn0 sc0, .func (.func fid) #[] cap] 138)).alloc (.cells #[.slice ga (withinOf x0).length gc] 69)).alloc (.cells #[.int .i64 c] 3)).alloc (.cells #[.int .i64 p.op, .int .u64 p.set.a, .int .u64 p.set.b, .int .u64 p.set.c, .int .u64 p.set.d, .int .i64 p.lo, .int .i64 p.hi, .int .i64 p.gr, .slice (some ⟨b, o, none⟩) 1 tc] 28)) w.heap.size [.pointer (some ⟨C.M, 0, none⟩)] 109 := ((((Row.new rfl).alloc _).alloc _).alloc _).alloc _
  have R1 : Row (((((w.alloc (.cells #[.pointer (some ⟨C.M, 0, none⟩)] 109)).alloc (.cells #[.int .i64 p.op, .int .u64 p.set.a, .int .u64 p.set.b, .int .u64 p.set.c, .int .u64 p.set.d, .int .i64 p.lo, .int .i64 p.hi, .int .i64 p.gr, .slice (some ⟨b, o, none⟩) 1 tc, .int .i64 i0, .int .i64 k, .slice sa0 sn0 sc0, .func (.func fid) #[] cap] 138)).alloc (.cells #[.slice ga (withinOf x0).length gc] 69)).alloc (.cells #[.int .i64 c] 3)).alloc (.cells #[.int .i64 p.op, .int .u64 p.set.a, .int .u64 p.set.b, .int .u64 p.set.c, .int .u64 p.set.d, .int .i64 p.lo, .int .i64 p.hi, .int .i64 p.gr, .slice (some ⟨b, o, none⟩) 1 tc] 28)) (w.heap.size + 1) [.int .i64 p.op, .int .u64 p.set.a, .int .u64 p.set.b, .int .u64 p.set.c, .int .u64 p.set.d, .int .i64 p.lo, .int .i64 p.hi, .int .i64 p.gr, .slice (some ⟨b, o, none⟩) 1 tc, .int .i64 i0, .int .i64 k, .slice sa0 sn0 sc0, .func (.func fid) #[] cap] 138 := (((Row.new (by simp)).alloc _).alloc _).alloc _
  have R2 : Row (((((w.alloc (.cells #[.pointer (some ⟨C.M, 0, none⟩)] 109)).alloc (.cells #[.int .i64 p.op, .int .u64 p.set.a, .int .u64 p.set.b, .int .u64 p.set.c, .int .u64 p.set.d, .int .i64 p.lo, .int .i64 p.hi, .int .i64 p.gr, .slice (some ⟨b, o, none⟩) 1 tc, .int .i64 i0, .int .i64 k, .slice sa0 sn0 sc0, .func (.func fid) #[] cap] 138)).alloc (.cells #[.slice ga (withinOf x0).length gc] 69)).alloc (.cells #[.int .i64 c] 3)).alloc (.cells #[.int .i64 p.op, .int .u64 p.set.a, .int .u64 p.set.b, .int .u64 p.set.c, .int .u64 p.set.d, .int .i64 p.lo, .int .i64 p.hi, .int .i64 p.gr, .slice (some ⟨b, o, none⟩) 1 tc] 28)) (w.heap.size + 2) [.slice ga (withinOf x0).length gc] 69 := ((Row.new (by simp)).alloc _).alloc _
  have R3 : Row (((((w.alloc (.cells #[.pointer (some ⟨C.M, 0, none⟩)] 109)).alloc (.cells #[.int .i64 p.op, .int .u64 p.set.a, .int .u64 p.set.b, .int .u64 p.set.c, .int .u64 p.set.d, .int .i64 p.lo, .int .i64 p.hi, .int .i64 p.gr, .slice (some ⟨b, o, none⟩) 1 tc, .int .i64 i0, .int .i64 k, .slice sa0 sn0 sc0, .func (.func fid) #[] cap] 138)).alloc (.cells #[.slice ga (withinOf x0).length gc] 69)).alloc (.cells #[.int .i64 c] 3)).alloc (.cells #[.int .i64 p.op, .int .u64 p.set.a, .int .u64 p.set.b, .int .u64 p.set.c, .int .u64 p.set.d, .int .i64 p.lo, .int .i64 p.hi, .int .i64 p.gr, .slice (some ⟨b, o, none⟩) 1 tc] 28)) (w.heap.size + 3) [.int .i64 c] 3 := (Row.new (by simp)).alloc _
  have R4 : Row (((((w.alloc (.cells #[.pointer (some ⟨C.M, 0, none⟩)] 109)).alloc (.cells #[.int .i64 p.op, .int .u64 p.set.a, .int .u64 p.set.b, .int .u64 p.set.c, .int .u64 p.set.d, .int .i64 p.lo, .int .i64 p.hi, .int .i64 p.gr, .slice (some ⟨b, o, none⟩) 1 tc, .int .i64 i0, .int .i64 k, .slice sa0 sn0 sc0, .func (.func fid) #[] cap] 138)).alloc (.cells #[.slice ga (withinOf x0).length gc] 69)).alloc (.cells #[.int .i64 c] 3)).alloc (.cells #[.int .i64 p.op, .int .u64 p.set.a, .int .u64 p.set.b, .int .u64 p.set.c, .int .u64 p.set.d, .int .i64 p.lo, .int .i64 p.hi, .int .i64 p.gr, .slice (some ⟨b, o, none⟩) 1 tc] 28)) (w.heap.size + 4) [.int .i64 p.op, .int .u64 p.set.a, .int .u64 p.set.b, .int .u64 p.set.c, .int .u64 p.set.d, .int .i64 p.lo, .int .i64 p.hi, .int .i64 p.gr, .slice (some ⟨b, o, none⟩) 1 tc] 28 := Row.new (by simp)
  have hB : Below w.heap.size w (((((w.alloc (.cells #[.pointer (some ⟨C.M, 0, none⟩)] 109)).alloc (.cells #[.int .i64 p.op, .int .u64 p.set.a, .int .u64 p.set.b, .int .u64 p.set.c, .int .u64 p.set.d, .int .i64 p.lo, .int .i64 p.hi, .int .i64 p.gr, .slice (some ⟨b, o, none⟩) 1 tc, .int .i64 i0, .int .i64 k, .slice sa0 sn0 sc0, .func (.func fid) #[] cap] 138)).alloc (.cells #[.slice ga (withinOf x0).length gc] 69)).alloc (.cells #[.int .i64 c] 3)).alloc (.cells #[.int .i64 p.op, .int .u64 p.set.a, .int .u64 p.set.b, .int .u64 p.set.c, .int .u64 p.set.d, .int .i64 p.lo, .int .i64 p.hi, .int .i64 p.gr, .slice (some ⟨b, o, none⟩) 1 tc] 28)) := ((((((Below.refl w.heap.size w).alloc (Nat.le_refl _) _).alloc (by simp) _).alloc (by simp; omega) _).alloc (by simp; omega) _).alloc (by simp; omega) _)
  have HPRE := hid (h.later hB)
  have HBUT := hid (But.of_below (S := C.S) hB)
  have HGN := hid hgn
  have HX := hid hx
  have HXC := hid hxc
  have HTT := hid HT
  have HNN := hid HN
  have HPR0 := hid h
  have HRR := hid (⟨R0, R1, R2, R3, R4⟩ : _ ∧ _ ∧ _ ∧ _ ∧ _)
  have hent := h.k.enter
  have q0 := R1.c13
  have q0a := ((Row.new (w := w.alloc (.cells #[.pointer (some ⟨C.M, 0, none⟩)] 109)) (B := w.heap.size + 1) (cs := [.int .i64 p.op, .int .u64 p.set.a, .int .u64 p.set.b, .int .u64 p.set.c, .int .u64 p.set.d, .int .i64 p.lo, .int .i64 p.hi, .int .i64 p.gr, .slice (some ⟨b, o, none⟩) 1 tc, .int .i64 i0, .int .i64 k, .slice sa0 sn0 sc0, .func (.func fid) #[] cap]) (T := 138) (by simp)).alloc (.cells #[.slice ga (withinOf x0).length gc] 69) |>.alloc (.cells #[.int .i64 c] 3)).c13
  have q3 := R3.cell 0
  have q4 := R4.c9
  clear h hok hok' HT HN R0 R1 R2 R3 R4 hall hx hxc hgn hB ho
  go_enter Try.func83, Try.ntmps83
  by_cases hmay : mayRep p c
  · have HMAY := hid hmay
    have g1 : (p.hi == -1) = true ∨ ((p.hi == -1) = false ∧ decide ((c : Int) < p.hi) = true) := by
      unfold mayRep at hmay
      by_cases h1 : p.hi = -1
      · left; simp [h1]
      · right; simp [h1]; omega
    clear hmay
    obtain ⟨lo, hlo0⟩ : ∃ lo : Nat, lo = repLow p c i := ⟨_, rfl⟩
    have hLow : (decide ((c : Int) < p.lo) = true ∧ lo = i) ∨ (decide ((c : Int) < p.lo) = false ∧ lo = i + 1) := by
      unfold repLow at hlo0
      by_cases h1 : (c : Int) < p.lo
      · rw [if_pos h1] at hlo0; left; exact ⟨by simp [h1], hlo0⟩
      · rw [if_neg h1] at hlo0; right; exact ⟨by simp; omega, hlo0⟩
    have HLO := hid hlo0
    have hlo1 : i ≤ lo ∧ lo ≤ i + 1 := by omega
    clear hlo0
    have HLOW := hid hLow
    clear hLow
    rcases g1 with g1 | ⟨g1, g2⟩
    all_goals
      go_wp2_with fail
      go_loopw [14] (fun v wr => ∃ (jb : Nat) (J : Int) (q : Nat), v = .pointer (some ⟨jb, 0, none⟩) ∧ q ≤ k + 1 - lo ∧ Hid (RepL C w n p x0 c i k sp K (.slice ga (withinOf x0).length gc) [.int .i64 p.op, .int .u64 p.set.a, .int .u64 p.set.b, .int .u64 p.set.c, .int .u64 p.set.d, .int .i64 p.lo, .int .i64 p.hi, .int .i64 p.gr, .slice (some ⟨b, o, none⟩) 1 tc, .int .i64 i0, .int .i64 k, .slice sa0 sn0 sc0, .func (.func fid) #[] cap] [.int .i64 p.op, .int .u64 p.set.a, .int .u64 p.set.b, .int .u64 p.set.c, .int .u64 p.set.d, .int .i64 p.lo, .int .i64 p.hi, .int .i64 p.gr, .slice (some ⟨b, o, none⟩) 1 tc] (.slice sa sp.length sc) (.func (.func fid) #[] cap) jb J q wr)) (fun v wr => (jcell v wr + 1 - lo).toNat)
      case atStart =>
        refine ⟨w.heap.size + 5, (k : Int), k + 1 - lo, rfl, Nat.le_refl _, ⟨⟨HRR.out.1.alloc _, HRR.out.2.1.alloc _, HRR.out.2.2.1.alloc _, HRR.out.2.2.2.1.alloc _, HRR.out.2.2.2.2.alloc _, Row.new (by simp)⟩, by omega, by have := HLO.out; omega, HBUT.out.alloc _, fun _ => ⟨n, Nat.le_refl _, ?_, fun o2 m2 he => ?_⟩, fun e => (by cases e)⟩⟩
        · exact HPRE.out.later ((Below.refl _ _).alloc (Nat.le_refl _) _)
        · exact .repMay HMAY.out (by have h9 := HLO.out; rw [h9] at he; exact he)
      case round =>
        obtain ⟨jb, J, q, rfl, hq, HL⟩ := hrel
        obtain ⟨⟨r0, r1, r2, r3, r4, r5⟩, hjb, hJ, hbut, hpr, -⟩ := HL.out
        obtain ⟨m', hm', hpre, hrest⟩ := hpr rfl
        rw [← HLO.out] at hJ
        have HPR := hid hpre
        have HRS := hid hrest
        have HBU := hid hbut
        have HR5 := hid (⟨r0, r1, r2, r3, r4, r5⟩ : _ ∧ _ ∧ _ ∧ _ ∧ _ ∧ _)
        have qc := hpre.st.c
        have p0 := r0.cell 0
        have p1 := r1.c13
        have p2 := r2.cell 0
        have p3 := r3.cell 0
        have p4 := r4.c9
        have p5 := r5.cell 0
        have HM' := hid hm'
        clear q0 q0a q3 q4 hbut hpr hpre hrest r0 r1 r2 r3 r4 r5 HL
        cases q with
        | zero =>
          rcases HLOW.out with ⟨hl1, hl2⟩ | ⟨hl1, hl2⟩
          · have d2 : decide ((i : Int) ≤ J) = false := by simp; omega
            have d3 : ¬ (i : Int) ≤ J := by omega
            clear hJ
            have HTL : Hid (∀ o m, Ev C.str C.lines (.repj p x0 c i k (repLow p c i) 0) sp K m' o m → Ev C.str C.lines (.rep p x0 c i k) sp K n o m) := fun o m he => HRS.out o m he
            by_cases hik2 : i = k
            · have t1 : ((i : Int) == (k : Int)) = true := by simp; omega
              by_cases hlo : p.lo ≤ (c : Int)
              · have t2 : decide (p.lo ≤ (c : Int)) = true := by simp; omega
                have HIK := hid hik2
                clear hik2
                go_wp2_with fail
                refine ((HNN.out m' hm') _ sp _ fid cap ⟨HPR.out.st, HPR.out.span, HPR.out.ok, HPR.out.k, HPR.out.kok⟩).mono ?_
                rintro e w' hg'
                obtain ⟨o', m, h1, rfl, h3, h4, h5⟩ := hg'
                have HG : Hid (Good C (Ev C.str C.lines (.rep p x0 c i k) sp K n) w (.returned (.bool o'.isFound)) w') := ⟨o', m, HTL.out _ _ (.repjEnd ⟨HIK.out, hlo⟩ h1), rfl, h3, HBU.out.trans h4, h5⟩
                clear h1 h3 h4 h5
                generalize o'.isFound = fo at *
                go_wp2_with fail
                go_ret
                exact HG.out
              · have t2 : decide (p.lo ≤ (c : Int)) = false := by simp; omega
                have HIK := hid hik2
                clear hik2
                go_wp2_with fail
                go_ret
                exact ⟨.fail, m', HTL.out _ _ (.repjFail (by omega)), rfl, HPR.out.st, HBU.out, fun l hl => (by cases hl)⟩
            · have t1 : ((i : Int) == (k : Int)) = false := by simp; omega
              have HIK := hid hik2
              clear hik2
              go_wp2_with fail
              go_ret
              exact ⟨.fail, m', HTL.out _ _ (.repjFail (fun h => HIK.out h.1)), rfl, HPR.out.st, HBU.out, fun l hl => (by cases hl)⟩
          · obtain rfl : J = (i : Int) := by omega
            clear hJ
            have HTL : Hid (∀ o m, Ev C.str C.lines (.repj p x0 c i k (repLow p c i) 0) sp K m' o m → Ev C.str C.lines (.rep p x0 c i k) sp K n o m) := fun o m he => HRS.out o m he
            by_cases hik2 : i = k
            · have t1 : ((i : Int) == (k : Int)) = true := by simp; omega
              by_cases hlo : p.lo ≤ (c : Int)
              · have t2 : decide (p.lo ≤ (c : Int)) = true := by simp; omega
                have HIK := hid hik2
                clear hik2
                go_wp2_with fail
                refine ((HNN.out m' hm') _ sp _ fid cap ⟨HPR.out.st, HPR.out.span, HPR.out.ok, HPR.out.k, HPR.out.kok⟩).mono ?_
                rintro e w' hg'
                obtain ⟨o', m, h1, rfl, h3, h4, h5⟩ := hg'
                have HG : Hid (Good C (Ev C.str C.lines (.rep p x0 c i k) sp K n) w (.returned (.bool o'.isFound)) w') := ⟨o', m, HTL.out _ _ (.repjEnd ⟨HIK.out, hlo⟩ h1), rfl, h3, HBU.out.trans h4, h5⟩
                clear h1 h3 h4 h5
                generalize o'.isFound = fo at *
                go_wp2_with fail
                go_ret
                exact HG.out
              · have t2 : decide (p.lo ≤ (c : Int)) = false := by simp; omega
                have HIK := hid hik2
                clear hik2
                go_wp2_with fail
                go_ret
                exact ⟨.fail, m', HTL.out _ _ (.repjFail (by omega)), rfl, HPR.out.st, HBU.out, fun l hl => (by cases hl)⟩
            · have t1 : ((i : Int) == (k : Int)) = false := by simp; omega
              have HIK := hid hik2
              clear hik2
              go_wp2_with fail
              go_ret
              exact ⟨.fail, m', HTL.out _ _ (.repjFail (fun h => HIK.out h.1)), rfl, HPR.out.st, HBU.out, fun l hl => (by cases hl)⟩
        | succ q =>
          obtain ⟨j, hj⟩ : ∃ j : Nat, j = lo + q := ⟨_, rfl⟩
          obtain rfl : J = (j : Int) := by omega
          have hij : i ≤ j := by omega
          have hjk : j ≤ k := by omega
          have HJ := hid hj
          have hcj : i < j ∨ (¬ i < j ∧ decide ((c : Int) < p.lo) = true) := by
            rcases HLOW.out with ⟨hl1, hl2⟩ | ⟨hl1, hl2⟩
            · by_cases h : i < j
              · exact .inl h
              · exact .inr ⟨h, hl1⟩
            · left; omega
          have HC := hid (fun (x : World) (hx : Grow wr.drew x) => (⟨(HR5.out.1.grow hx).cell 0, (HR5.out.2.2.1.grow hx).cell 0, (HR5.out.2.2.2.2.1.grow hx).c9, (HR5.out.2.2.2.2.2.grow hx).cell 0⟩ : _ ∧ _ ∧ _ ∧ _))
          have HX1 := hid (fun (x : World) (hx : Grow wr.drew x) => HXC.out.below (HPR.out.st.below.trans ((grow_below hx).mono HPR.out.st.below.size)))
          have HWO := hid (fun (x : World) (hx : Grow wr.drew x) => without_any x _ _ sp ((HPR.out.span).below (grow_below hx)) C.S (.slice ga (withinOf x0).length gc) (withinOf x0) (HGN.out.but (HBU.out.trans (But.of_below (grow_below hx)))) (by have := HPR.out.ok.1; rw [this]; exact within_ok C.N x0 HX0.out) (by have := HPR.out.ok.1; omega) (by have := withinOf_le x0; have h9 := HOKK.out; rw [Re.ok] at h9; have h8 := h9.1.2; simp [Re.sizes, Re.counts] at h8; show _ ≤ _; unfold Re.size at this; omega))
          clear hJ hj
          rcases hcj with hcj | ⟨hcj, hcl2⟩
          all_goals
            first
              | (have hcj3 : (i : Int) < (j : Int) := by omega)
              | (have hcj3 : ¬ (i : Int) < (j : Int) := by omega)
              | skip
            have hijI : (i : Int) ≤ (j : Int) := by omega
            go_wp2_with fail
            refine wp_region_inv 12 (Grow) (by kernel_rfl) (by kernel_rfl) (Grow.refl) (fun _ _ _ => Grow.trans) ?_
            simp only [fill, dstOf, Act.put, List.take_succ_cons, List.take_zero, List.getElem?_toArray, List.getElem?_cons_zero, List.getElem?_cons_succ, Option.bind_some, List.setIfInBounds_toArray, List.set_cons_zero, List.set_cons_succ]
            refine Plan.det 1 rfl (Grow.refl) ?_
            apply Exists.intro
            refine ⟨fun vs x hR hF K hK => ?_, ?_⟩
            · have hc := HC.out x hR; clear hF
              go_simp
              exact hK _ _ (Grow.refl _) rfl
            refine Plan.det 2 rfl (Grow.refl) ?_
            apply Exists.intro
            refine ⟨fun vs x hR hF K hK => ?_, ?_⟩
            · clear hF
              go_simp
              exact hK _ _ (Grow.refl _) rfl
            refine Plan.det 3 rfl (Grow.refl) ?_
            apply Exists.intro
            refine ⟨fun vs x hR hF K hK => ?_, ?_⟩
            · have f1 := hF 0 _ _ rfl rfl; have hc := HC.out x hR; clear hF
              go_simp
              exact hK _ _ (Grow.refl _) rfl
            refine Plan.det 4 rfl (Grow.refl) ?_
            apply Exists.intro
            refine ⟨fun vs x hR hF K hK => ?_, ?_⟩
            · have f2 := hF 0 _ _ rfl rfl; clear hF
              go_simp
              exact hK _ _ (Grow.refl _) rfl
            refine Plan.det 5 rfl (Grow.refl) ?_
            apply Exists.intro
            refine ⟨fun vs x hR hF K hK => ?_, ?_⟩
            · have f3 := hF 0 _ _ rfl rfl; have hc := HC.out x hR; clear hF
              rw [if_pos (show Region.wanted _ _ = true from rfl)]
              refine gives_load_agg 28 _ rfl b o f3 _ _ (HX1.out x hR) Try.underlying28 rfl (size_re9 _ _ _ _ _ _ _ _ _) ?_
              exact hK _ _ (Grow.refl _) rfl
            refine Plan.det 6 rfl (Grow.refl) ?_
            apply Exists.intro
            refine ⟨fun vs x hR hF K hK => ?_, ?_⟩
            · clear hF
              go_simp
              exact hK _ _ (Grow.refl _) rfl
            refine Plan.det 7 rfl (Grow.refl) ?_
            apply Exists.intro
            refine ⟨fun vs x hR hF K hK => ?_, ?_⟩
            · have hc := HC.out x hR; clear hF
              go_simp
              exact hK _ _ (Grow.refl _) rfl
            refine Plan.det 8 rfl (Grow.refl) ?_
            apply Exists.intro
            refine ⟨fun vs x hR hF K hK => ?_, ?_⟩
            · clear hF
              go_simp
              exact hK _ _ (Grow.refl _) rfl
            refine Plan.det 9 rfl (Grow.refl) ?_
            apply Exists.intro
            refine ⟨fun vs x hR hF K hK => ?_, ?_⟩
            · have hc := HC.out x hR; clear hF
              go_simp
              exact hK _ _ (Grow.refl _) rfl
            refine Plan.rel 10 rfl (Grow.refl) (fun v y => ∃ (a : Option Addr) (c2 : Nat), v = .slice a sp.length c2 ∧ SpB (wr.heap.size ≤ ·) y (.slice a sp.length c2) (unset sp (withinOf x0))) (fun v a b hR ⟨a1, c1, h1, h2⟩ => ⟨a1, c1, h1, h2.below hR⟩) (fun vs x hR hF K hK => ?_) ?_
            · have f7 := hF 1 _ _ rfl rfl; have f8 := hF 0 _ _ rfl rfl
              go_simp
              refine (HWO.out x hR).mono ?_
              rintro e x1 ⟨a, c2, rfl, hbe, h1⟩
              exact ⟨_, rfl, hK _ _ hbe ⟨a, c2, rfl, h1.mono (fun b _ h2 => Nat.le_trans (grow_below hR).size h2)⟩⟩
            refine Plan.det 11 rfl (Grow.refl) ?_
            apply Exists.intro
            refine ⟨fun vs x hR hF K hK => ?_, ?_⟩
            · clear hF
              go_simp
              exact hK _ _ (Grow.refl _) rfl
            refine Plan.rel 12 rfl (Grow.refl) (fun v y => ∃ (a : Option Addr) (c2 : Nat), v = .agg #[.int .i64 p'.op, .int .u64 p'.set.a, .int .u64 p'.set.b, .int .u64 p'.set.c, .int .u64 p'.set.d, .int .i64 p'.lo, .int .i64 p'.hi, .int .i64 p'.gr, .slice ad n' c', .int .i64 i, .int .i64 j, .slice a sp.length c2, .func (.func 101) #[] #[.pointer (some ⟨w.heap.size, 0, none⟩), .pointer (some ⟨w.heap.size + 1, 0, none⟩), .pointer (some ⟨w.heap.size + 2, 0, none⟩), .pointer (some ⟨w.heap.size + 3, 0, none⟩), .pointer (some ⟨jb, 0, none⟩)]] ∧ SpB (wr.heap.size ≤ ·) y (.slice a sp.length c2) (unset sp (withinOf x0))) (fun v a b hR ⟨a1, c1, h1, h2⟩ => ⟨a1, c1, h1, h2.below hR⟩) (fun vs x hR hF K hK => ?_) ?_
            · have f4 := hF 6 _ _ rfl rfl; have f5 := hF 5 _ _ rfl rfl; have f6 := hF 4 _ _ rfl rfl; have f9 := hF 1 _ _ rfl rfl; have f10 := hF 0 _ _ rfl rfl
              obtain ⟨a, c2, e9, h9⟩ := f9
              simp only [e9] at *
              go_simp
              exact hK _ _ (Grow.refl _) ⟨a, c2, rfl, h9⟩
            refine Plan.nil (fun vs x hR hF => ?_)
            have f0 := hF 11 _ _ rfl; have f1 := hF 10 _ _ rfl; have f2 := hF 9 _ _ rfl; have f3 := hF 8 _ _ rfl; have f4 := hF 7 _ _ rfl; have f5 := hF 6 _ _ rfl; have f6 := hF 5 _ _ rfl; have f7 := hF 4 _ _ rfl; have f8 := hF 3 _ _ rfl; have f9 := hF 2 _ _ rfl; have f10 := hF 1 _ _ rfl; have f11 := hF 0 _ _ rfl
            clear hF
            simp only [f0, f1, f2, f3, f4, f5, f6, f7, f8, f10]
            clear f0 f1 f2 f3 f4 f5 f6 f7 f8 f10
            simp only [List.drop_succ_cons, List.drop_zero]
            have HBX := hid (grow_below hR)
            obtain ⟨a9, c9, e11, h11⟩ := f11
            have HSP := hid h11
            clear f9 h11 HC hR HX1 HWO
            simp only [e11]
            have hpx := HPR.out.later HBX.out
            have HPX : Hid (Pre C m' (C.B - m' + 1) (unset sp (withinOf x0)) (.rep p x0 (c + 1) j k K) (.slice a9 sp.length c9) (.func (.func 101) #[] #[.pointer (some ⟨w.heap.size, 0, none⟩), .pointer (some ⟨w.heap.size + 1, 0, none⟩), .pointer (some ⟨w.heap.size + 2, 0, none⟩), .pointer (some ⟨w.heap.size + 3, 0, none⟩), .pointer (some ⟨jb, 0, none⟩)]) x) :=
              ⟨hpx.st, HSP.out.mono (fun b _ hb => HPR.out.st.new hb), unset_ok _ HPR.out.ok, .rep (HR5.out.1.below HBX.out HR5.out.1.lt) HINN.out (HR5.out.2.1.below HBX.out HR5.out.2.1.lt) (HR5.out.2.2.1.below HBX.out HR5.out.2.2.1.lt) (HGN.out.but (HBU.out.trans (But.of_below HBX.out))) (HR5.out.2.2.2.1.below HBX.out HR5.out.2.2.2.1.lt) (HR5.out.2.2.2.2.2.below HBX.out HR5.out.2.2.2.2.2.lt) hpx.k,
                HO.out, HOKK.out, by omega, hjk, hks, HPR.out.kok.mono (Nat.le_succ _)⟩
            clear hpx p0 p1 p2 p3 p4 p5 qc
            go_wp2_with fail
            refine (TryC.lit (HTT.out m' HM'.out) _ x0 p' ad n' c' i j (unset sp (withinOf x0)) (.rep p x0 (c + 1) j k K) _ _ HX.out HX0.out hij (by omega) HPX.out).mono ?_
            rintro e w' ⟨o', m, h1, rfl, h3, h4, h5⟩
            have HE := hid h1
            have HST := hid h3
            have HFD := hid h5
            have HBW : Hid (But C.S wr w') := (But.of_below HBX.out).trans h4
            have hrows := HR5.out
            have HR6 := hid (⟨hrows.1.but HBW.out (HPR.out.st.nS hrows.1 (by decide) (by decide)), hrows.2.1.but HBW.out (HPR.out.st.nS hrows.2.1 (by decide) (by decide)), hrows.2.2.1.but HBW.out (HPR.out.st.nS hrows.2.2.1 (by decide) (by decide)), hrows.2.2.2.1.but HBW.out (HPR.out.st.nS hrows.2.2.2.1 (by decide) (by decide)), hrows.2.2.2.2.1.but HBW.out (HPR.out.st.nS hrows.2.2.2.2.1 (by decide) (by decide)), hrows.2.2.2.2.2.but HBW.out (HPR.out.st.nS hrows.2.2.2.2.2 (by decide) (by decide))⟩ : Row w' _ _ _ ∧ Row w' _ _ _ ∧ Row w' _ _ _ ∧ Row w' _ _ _ ∧ Row w' _ _ _ ∧ Row w' _ _ _)
            clear h1 h3 h4 h5 hrows HPX
            have p0 := HR6.out.1.cell 0
            have p5 := HR6.out.2.2.2.2.2.cell 0
            have hjw : IntKind.i64.wrap ((j : Int) - 1) = (j : Int) - 1 := by rw [IntKind.wrap_i64]; omega
            have hsz := HR6.out.2.2.2.2.2.lt
            cases o' with
            | found l =>
              simp only [Out.isFound]
              clear hsz
              go_wp2_with fail
              go_ret
              exact ⟨.found l, m, HRS.out _ _ (by rw [← HLO.out]; exact .repjHit (by have := HE.out; rw [HJ.out] at this; exact this) (by intro h; cases h)), rfl, HST.out, HBU.out.trans HBW.out, HFD.out⟩
            | fail =>
              simp only [Out.isFound]
              have qc := HST.out.c
              simp only [Out.isOver] at qc
              go_wp2_with fail
              refine ⟨⟨w'.heap.size, (j : Int) - 1, q, rfl, by omega, ⟨⟨HR6.out.1.alloc _, HR6.out.2.1.alloc _, HR6.out.2.2.1.alloc _, HR6.out.2.2.2.1.alloc _, HR6.out.2.2.2.2.1.alloc _, Row.new rfl⟩, by omega, by rw [← HLO.out]; have := HJ.out; omega, (HBU.out.trans HBW.out).alloc _, fun _ => ⟨m, ?_, ?_, fun o2 m2 he => ?_⟩, fun e => (by cases e)⟩⟩, ?_⟩
              · have := (Ev.left C.str C.lines HE.out).1; have := HM'.out; omega
              · exact Pre.later ⟨HST.out, HPR.out.span.but HBW.out, HPR.out.ok, HPR.out.k.but HPR.out.st HBW.out, HPR.out.kok.mono (by have := (Ev.left C.str C.lines HE.out).1; omega)⟩ ((Below.refl _ _).alloc (Nat.le_refl _) _)
              · refine HRS.out _ _ ?_
                rw [← HLO.out]
                exact .repjMiss (by have := HE.out; rw [HJ.out] at this; exact this) (by rw [← HLO.out] at he; exact he)
              · rw [jcell_row (Row.new (w := w') rfl), jcell_row HR5.out.2.2.2.2.2]
                have := HJ.out
                omega
            | over =>
              simp only [Out.isFound]
              have qc := HST.out.c
              simp only [Out.isOver] at qc
              go_wp2_with fail
              go_ret
              exact ⟨.over, m, HRS.out _ _ (by rw [← HLO.out]; exact .repjHit (by have := HE.out; rw [HJ.out] at this; exact this) (by intro h; cases h)), rfl, HST.out, HBU.out.trans HBW.out, HFD.out⟩
  · have g1 : (p.hi == -1) = false := by unfold mayRep at hmay; simp; omega
    have g2 : decide ((c : Int) < p.hi) = false := by unfold mayRep at hmay; simp; omega
    have HMAY := hid hmay
    clear hmay
    have HTL : Hid (∀ o m, Ev C.str C.lines (.repj p x0 c i k (repLow p c i) 0) sp K n o m → Ev C.str C.lines (.rep p x0 c i k) sp K n o m) := fun o m he => .repNot HMAY.out he
    by_cases hik2 : i = k
    · have t1 : ((i : Int) == (k : Int)) = true := by simp; omega
      by_cases hlo : p.lo ≤ (c : Int)
      · have t2 : decide (p.lo ≤ (c : Int)) = true := by simp; omega
        have HIK := hid hik2
        clear hik2
        go_wp2_with fail
        refine ((HNN.out n (Nat.le_refl _)) _ sp _ fid cap ⟨HPRE.out.st, HPRE.out.span, HPRE.out.ok, HPRE.out.k, HPRE.out.kok⟩).mono ?_
        rintro e w' hg'
        obtain ⟨o', m, h1, rfl, h3, h4, h5⟩ := hg'
        have HG : Hid (Good C (Ev C.str C.lines (.rep p x0 c i k) sp K n) w (.returned (.bool o'.isFound)) w') := ⟨o', m, HTL.out _ _ (.repjEnd ⟨HIK.out, hlo⟩ h1), rfl, h3, HBUT.out.trans h4, h5⟩
        clear h1 h3 h4 h5
        generalize o'.isFound = fo at *
        go_wp2_with fail
        go_ret
        exact HG.out
      · have t2 : decide (p.lo ≤ (c : Int)) = false := by simp; omega
        have HIK := hid hik2
        clear hik2
        go_wp2_with fail
        go_ret
        exact ⟨.fail, n, HTL.out _ _ (.repjFail (by omega)), rfl, HPRE.out.st, HBUT.out, fun l hl => (by cases hl)⟩
    · have t1 : ((i : Int) == (k : Int)) = false := by simp; omega
      have HIK := hid hik2
      clear hik2
      go_wp2_with fail
      go_ret
      exact ⟨.fail, n, HTL.out _ _ (.repjFail (fun h => HIK.out h.1)), rfl, HPRE.out.st, HBUT.out, fun l hl => (by cases hl)⟩
end Go.Proofs.Ythnpbopnpdlmnaa
