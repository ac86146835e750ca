/- Reback: the groups within a tree, as a list that the call owns. -/
import Derived.Test.YthnpbopnpdlmnaaD24
import Derived.Test.YthnpbopnpdlmnaaD03
namespace Go.Proofs.Ythnpbopnpdlmnaa
open Go.RowKit
attribute [local go_sem] gives givesUpon

def nums (l : List Nat) : List Value := l.map fun (g : Nat) => Value.int .i64 (g : Int)
def OwnN (w : World) (base : Nat) (v : Value) (l : List Nat) : Prop := (l = [] → v = .slice none 0 0) ∧ w.ownsRow base 3 1 v l.length (nums l)
theorem OwnN.below {w w' : World} {base : Nat} {v : Value} {l : List Nat} (h : OwnN w base v l) (hb : Below w.heap.size w w') : OwnN w' base v l :=
  ⟨h.1, h.2.kept (row := none) ⟨hb.os, hb.tape, hb.output, hb.size, fun k hk _ => hb.block k hk⟩ (by cases v.ownBlock <;> simp)⟩
theorem OwnN.at {w : World} {base : Nat} {v : Value} {l : List Nat} {S : List Nat} (h : OwnN w base v l) (hS : ∀ b, base ≤ b → b ∉ S) : NumsAt S w v l := by
  rcases h.2.2 with ⟨e1, e2⟩ | ⟨g, cap, cur, hv, hg, hcur, hnc, hcm, hsz, hxs⟩
  · have : l = [] := List.eq_nil_of_length_eq_zero e2
    subst this
    exact ⟨none, 0, e1, .inl rfl⟩
  · refine ⟨_, cap, hv, .inr ⟨g, cur.toList, rfl, hS g hg, hcur, fun k x hk => ?_⟩⟩
    have hk' := (List.getElem?_eq_some_iff.1 hk).1
    have : (nums l)[k]? = some (.int .i64 (x : Int)) := by unfold nums; rw [List.getElem?_map, hk]; rfl
    rw [← hxs, List.getElem?_take, if_pos (by omega)] at this
    exact this
theorem withinAll_app : ∀ (xs ys : List Re), withinAll (xs ++ ys) = withinAll xs ++ withinAll ys
  | [], ys => by simp [withinAll]
  | t :: ts, ys => by rw [List.cons_append, withinAll, withinAll, withinAll_app ts ys, List.append_assoc]
mutual
theorem withinOf_le : ∀ t : Re, (withinOf t).length ≤ t.size
  | .mk p xs => by have := withinAll_le xs; rw [Re.size_mk, withinOf]; split <;> simp <;> omega
theorem withinAll_le : ∀ xs : List Re, (withinAll xs).length ≤ Re.sizes xs
  | [] => by simp [withinAll]
  | t :: ts => by
    have h1 := withinOf_le t; have h2 := withinAll_le ts
    rw [withinAll, List.length_append]
    show _ ≤ Re.counts _ _
    rw [Re.counts]
    exact Nat.add_le_add h1 h2
end
theorem withinAll_take_le (xs : List Re) (k : Nat) : (withinAll (xs.take k)).length ≤ Re.sizes xs := Nat.le_trans (withinAll_le _) (Re.counts_take_le _ _ _)
theorem Re.oks_in {N : Nat} : ∀ {xs : List Re}, Re.oks N xs → ∀ (d : Nat) (h : d < xs.length), xs[d].ok N
  | t :: ts, h, 0, hd => by rw [Re.oks] at h; exact h.1
  | t :: ts, h, d + 1, hd => by rw [Re.oks] at h; exact Re.oks_in h.2 d (by simpa using hd)
theorem OwnN.app {w' : World} {base : Nat} {a' : Option Addr} {n' c' : Nat} {l m : List Nat} (hm : m ≠ []) (h : w'.ownsRow base 3 1 (.slice a' n' c') n' (nums l ++ nums m)) (hn : n' = l.length + m.length) : OwnN w' base (.slice a' n' c') (l ++ m) := by
  refine ⟨fun e => absurd (List.append_eq_nil_iff.1 e).2 hm, ?_⟩
  rw [List.length_append, ← hn]
  unfold nums at h ⊢
  rw [List.map_append]
  exact h
theorem info_int2 : (Try.prog.info? 3).map (fun i => (i.zero, i.size, i.bytes)) = some (some (.int .i64 0), 1, 8) := by kernel_rfl

set_option maxRecDepth 100000 in
set_option maxHeartbeats 8000000 in
theorem within_any (wb : World) (N : Nat) (t : Re) : ∀ (w : World) (cs : List Value), t.In wb cs → t.ok N → Below wb.heap.size wb w → t.size ≤ 1000001 →
    Calls Try.prog 84 #[.agg cs.toArray] w fun e w' => ∃ a c, e = .returned (.slice a (withinOf t).length c) ∧ OwnN w' w.heap.size (.slice a (withinOf t).length c) (withinOf t) ∧ Below w.heap.size w w' := by
  induction t using Re.ind with
  | h p xs ih =>
    intro w cs hIn hok hbw hsz
    rw [Re.In] at hIn
    obtain ⟨ad, cap, rfl, hwf, hlc, hcm, hnil, hall⟩ := hIn
    rw [Re.size_mk] at hsz
    rw [Re.ok] at hok
    obtain ⟨-, -, -, hgr, hoks⟩ := hok
    have hlen := Re.sizes_len xs
    have HIH := hid ih
    have HAL := hid hall
    have HBW := hid hbw
    have HOK := hid hoks
    have HGR := hid hgr
    clear ih hall hwf hbw hoks hgr
    simp only [Pay.cells]
    obtain ⟨i0, hi, hz0, hz1, hz2⟩ := info_parts info_int2
    have q0 := (Row.new (w := w) (cs := [.int .i64 p.op, .int .u64 p.set.a, .int .u64 p.set.b, .int .u64 p.set.c, .int .u64 p.set.d, .int .i64 p.lo, .int .i64 p.hi, .int .i64 p.gr, .slice ad xs.length cap]) (T := 28) rfl).c9
    by_cases h6 : p.op = 6
    · have d6 : (p.op == 6) = true := by simp [h6]
      obtain ⟨g0, hg0⟩ : ∃ g0 : Nat, p.gr = g0 := ⟨p.gr.toNat, by have := HGR.out (.inl h6); omega⟩
      have hW : Hid (withinOf (.mk p xs) = [g0] ++ withinAll xs) := by show _ = _; rw [withinOf, if_pos h6, hg0]; rfl
      have HG0 := hid hg0
      clear h6 hg0
      go_enter Try.func84, Try.ntmps84
      go_wp2_with (at_builtin; refine wpList_append_own _ rfl _ _ 69 rfl (w.heap.size + 1) 3 i0 (.int .i64 0) 1 8 Try.underlying69 hi hz0 hz1 hz2 rfl (by decide) _ 0 [] rfl (World.ownsRow_nil _ _ _ _) ⟨w.heap.size + 1, 0, none⟩ 1 1 [.int .i64 p.gr] rfl rfl ?c1 ?c2 ?c3 ?c4 ?c5 ?_)
      case c1 => simpa using cell_one_new (w.alloc (.cells #[.int .i64 p.op, .int .u64 p.set.a, .int .u64 p.set.b, .int .u64 p.set.c, .int .u64 p.set.d, .int .i64 p.lo, .int .i64 p.hi, .int .i64 p.gr, .slice ad xs.length cap] 28)) (.int .i64 p.gr) 3
      case c2 => intro u hu; simp at hu; subst hu; rfl
      case c3 => unfold maxLen; omega
      case c4 => omega
      case c5 => simp
      intro v' w2 hown' hgrow _
      obtain ⟨a1, c1, rfl⟩ := ownsRow_shape hown'
      have HS : Hid (OwnN w2 (w.heap.size + 1) (.slice a1 1 c1) [g0] ∧ Row w2 w.heap.size [.int .i64 p.op, .int .u64 p.set.a, .int .u64 p.set.b, .int .u64 p.set.c, .int .u64 p.set.d, .int .i64 p.lo, .int .i64 p.hi, .int .i64 p.gr, .slice ad xs.length cap] 28 ∧ Below w.heap.size w w2) := by
        refine ⟨⟨fun e => (by cases e), ?_⟩, ?_, ?_⟩
        · have h9 := hown'
          rw [HG0.out] at h9
          exact h9
        · exact (hgrow.block w.heap.size (by simp; omega) (by simp [Value.ownBlock])).trans ((Row.new (w := w) (cs := [.int .i64 p.op, .int .u64 p.set.a, .int .u64 p.set.b, .int .u64 p.set.c, .int .u64 p.set.d, .int .i64 p.lo, .int .i64 p.hi, .int .i64 p.gr, .slice ad xs.length cap]) (T := 28) rfl).alloc _)
        · exact (((Below.refl _ w).alloc (Nat.le_refl _) _).alloc (by simp) _).grown hgrow (by simp; omega) (fun g hg => by simp [Value.ownBlock] at hg)
      clear hown' hgrow q0
      have q0 := HS.out.2.1.c9
      go_wp2_with fail
      go_loopw [3, 17] (fun v i wr => ∃ (k : Nat) (a : Option Addr) (n c : Nat) (L : List Nat), k ≤ xs.length ∧ v = .slice a n c ∧ i = .int .i64 k ∧ n ≤ 1000001 ∧ Hid (n = L.length ∧ L = [g0] ++ withinAll (xs.take k)) ∧ Hid (OwnN wr (w.heap.size + 1) (.slice a n c) L ∧ Row wr w.heap.size [.int .i64 p.op, .int .u64 p.set.a, .int .u64 p.set.b, .int .u64 p.set.c, .int .u64 p.set.d, .int .i64 p.lo, .int .i64 p.hi, .int .i64 p.gr, .slice ad xs.length cap] 28 ∧ Below w.heap.size w wr)) (fun _ i _ => xs.length - (intOf i).toNat)
      case atStart =>
        exact ⟨0, a1, 1, c1, [g0], Nat.zero_le _, rfl, rfl, by omega, ⟨rfl, by simp [withinAll]⟩, HS.out⟩
      case round =>
        obtain ⟨k, a, n, c, L, hk, rfl, rfl, hnle, HL, HX⟩ := hrel
        have q1 := HX.out.2.1.c9
        have hB := HX.out.2.1.lt
        have HBL : Hid (Below wb.heap.size wb wr) := HBW.out.trans (HX.out.2.2.mono HBW.out.size)
        have hml : xs.length ≤ 1000000 := by omega
        by_cases hlt : k < xs.length
        · obtain ⟨b, o, p', ad1, n1, cap1, rfl, HC, HI0, hbb⟩ := HAL.out.kid HBL.out k hlt
          have hltI : (k : Int) < xs.length := by omega
          have hcap : n ≤ c := by
            have h2 := HX.out.1.2
            rw [← HL.out.1] at h2
            rcases h2.2 with ⟨e1, e2⟩ | ⟨g, cap, cur, hv, hg, hcur, hnc, hcm, hsz, hxs⟩
            · omega
            · injection hv with _ _ e3; omega
          go_wp2_with (first | (with_reducible (refine wpList_load_agg rfl 28 _ rfl b (o + (k * 9)) rfl _ _ HC.out Try.underlying28 rfl (size_re9 _ _ _ _ _ _ _ _ _) ?_)))
          have hsg := Re.size_get (xs := xs) (i := k) (a := xs[k]) (by simp [hlt])
          have hoksz := hid hsg
          have HE : Hid (withinAll (xs.take (k + 1)) = withinAll (xs.take k) ++ withinOf xs[k]) := by
            show _ = _
            rw [List.take_add_one, List.getElem?_eq_getElem hlt, withinAll_app]
            simp [withinAll]
          have hwl := withinOf_le xs[k]
          have hwt := withinAll_take_le xs (k + 1)
          have hLL : L.length = n := HL.out.1.symm
          have hL2 : L.length = 1 + (withinAll (xs.take k)).length := by rw [HL.out.2]; simp; try omega
          have hL3 := HE.out
          have hL4 : (withinAll (xs.take (k + 1))).length = (withinAll (xs.take k)).length + (withinOf xs[k]).length := by rw [hL3, List.length_append]
          clear hL3
          refine (HIH.out xs[k] (List.getElem_mem _) _ _ HI0.out (Re.oks_in HOK.out k hlt) (HBL.out.alloc (by have := HBL.out.size; exact this) _) (by omega)).mono ?_
          rintro e w2 ⟨a2, c2, rfl, hown2, hb2⟩
          have hb3 := ((Below.refl _ wr).alloc (Nat.le_refl _) (.cells #[.int .i64 p'.op, .int .u64 p'.set.a, .int .u64 p'.set.b, .int .u64 p'.set.c, .int .u64 p'.set.d, .int .i64 p'.lo, .int .i64 p'.hi, .int .i64 p'.gr, .slice ad1 n1 cap1] 28)).trans (hb2.mono (by simp))
          have HX3 := hid (⟨HX.out.1.below hb3, HX.out.2.1.below hb3 HX.out.2.1.lt, HX.out.2.2.trans (hb3.mono HX.out.2.2.size)⟩ : OwnN w2 _ _ _ ∧ Row w2 _ _ _ ∧ Below _ _ w2)
          have HW := hid hown2
          have hsw := hb3.size
          have hnb : n + (withinOf xs[k]).length ≤ 1000001 := by omega
          rw [← hLL] at hnb hcap
          clear hb2 hb3 hown2 q1 hL2 hL4 hwt hwl
          generalize hwi : withinOf xs[k] = wi at *
          by_cases hwe : wi = []
          · subst hwe
            have e0 := HW.out.1 rfl
            injection e0 with e1 _ e3
            subst e1; subst e3
            have hn0 : n = L.length := hLL.symm
            subst hn0
            simp only [List.length_nil]
            have hnn : (L.length : Int) ≤ c := by omega
            have hfin : ∀ (a' : Option Addr), a' = a → Hid (OwnN w2 (w.heap.size + 1) (.slice a' L.length c) L ∧ Row w2 w.heap.size [.int .i64 p.op, .int .u64 p.set.a, .int .u64 p.set.b, .int .u64 p.set.c, .int .u64 p.set.d, .int .i64 p.lo, .int .i64 p.hi, .int .i64 p.gr, .slice (some ⟨b, o, none⟩) xs.length cap] 28 ∧ Below w.heap.size w w2) := fun a' e => by subst e; exact HX3.out
            have HFIN := hid hfin
            clear hfin
            have hLc : L.length ≤ c := by omega
            rcases HX3.out.1.2.2 with ⟨e1, e2⟩ | ⟨g, cap', cur, hv, -⟩
            · injection e1 with e1 _ e3
              have ha := HFIN.out none e1.symm
              have HA2 := hid ha
              clear ha HFIN
              subst e1; subst e3
              have hl0 : L = [] := List.eq_nil_of_length_eq_zero e2
              subst hl0
              simp only [List.length_nil]
              go_wp2_with fail
              refine ⟨⟨k + 1, none, 0, 0, [], by omega, rfl, by go_num, by omega, ⟨rfl, by rw [HE.out, List.append_nil]; exact HL.out.2⟩, HA2.out⟩, ?_⟩
              simp [intOf]; omega
            · injection hv with e1 _ e3
              clear e3
              have ha := HFIN.out (some ⟨g, 0, none⟩) e1.symm
              have HA2 := hid ha
              clear ha HFIN
              subst e1
              go_wp2_with fail
              refine ⟨⟨k + 1, some ⟨g, 0, none⟩, L.length, _, L, by omega, rfl, by go_num, by simpa using hnb, ⟨rfl, by rw [HE.out, List.append_nil]; exact HL.out.2⟩, HA2.out⟩, ?_⟩
              simp [intOf]; omega
          · have hpos : 0 < wi.length := List.length_pos_iff.2 hwe
            obtain ⟨g2, hg2, hrow2⟩ : ∃ g2, a2 = some ⟨g2, 0, none⟩ ∧ ∀ j u, (nums wi)[j]? = some u → w2.cell? ⟨g2, j, none⟩ = some u := by
              rcases HW.out.2.2 with ⟨e1, e2⟩ | ⟨g, cap, cur, hv, hg, hcur, hnc, hcm, hsz, hxs⟩
              · omega
              · injection hv with e1 _ e3
                refine ⟨g, e1, fun j u hj => ?_⟩
                have := World.ownsRow.cells HW.out.2 (g := g) (by rw [e1]; rfl) j u hj
                rw [Addr.add_lit, Nat.zero_add] at this
                exact this
            subst hg2
            subst hLL
            have HRW := hid hrow2
            clear hrow2
            go_wp2_with (at_builtin; refine wpList_append_row rfl _ _ 69 rfl (w.heap.size + 1) 3 i0 (.int .i64 0) 1 8 Try.underlying69 hi hz0 hz1 hz2 rfl (by decide) _ L.length (nums L) rfl HX3.out.1.2 ⟨g2, 0, none⟩ wi.length c2 (nums wi) rfl (by simp [nums]) ?c1 ?c2 ?c3 ?c4 ?c5 hpos ?_)
            case c1 => intro j u hj; rw [Addr.add_lit, Nat.zero_add]; exact HRW.out j u hj
            case c2 => intro u hu; unfold nums at hu; obtain ⟨x, -, rfl⟩ := List.mem_map.1 hu; rfl
            case c3 => unfold maxLen; omega
            case c4 => omega
            case c5 => omega
            intro a3 c3 w3 hown3 hgrow hnw
            have HX4 : Hid (OwnN w3 (w.heap.size + 1) (.slice a3 (L.length + wi.length) c3) (L ++ wi) ∧ Row w3 w.heap.size [.int .i64 p.op, .int .u64 p.set.a, .int .u64 p.set.b, .int .u64 p.set.c, .int .u64 p.set.d, .int .i64 p.lo, .int .i64 p.hi, .int .i64 p.gr, .slice (some ⟨b, o, none⟩) xs.length cap] 28 ∧ Below w.heap.size w w3) := by
              have hv : ∀ g, (Value.slice a L.length c).ownBlock = some g → w.heap.size + 1 ≤ g := fun g hg => (World.ownsRow.lt HX3.out.1.2 g hg).1
              have h0 := HX3.out.2.1.lt
              refine ⟨OwnN.app hwe hown3 rfl, ?_, ?_⟩
              · exact (hgrow.block w.heap.size h0 (fun e => by have := hv _ e.symm; omega)).trans HX3.out.2.1
              · exact HX3.out.2.2.grown hgrow (by omega) (fun g hg => by have := hv g hg; omega)
            clear hown3 hgrow hnw
            go_wp2_with fail
            refine ⟨⟨k + 1, a3, L.length + wi.length, c3, L ++ wi, by omega, rfl, by go_num, hnb, ⟨by rw [List.length_append], by rw [HE.out, HL.out.2, List.append_assoc]⟩, HX4.out⟩, ?_⟩
            simp [intOf]; omega
        · obtain rfl : k = xs.length := by omega
          go_wp2_with fail
          go_ret
          have hLe : L = [g0] ++ withinAll xs := by rw [HL.out.2, List.take_length]
          have hne := HL.out.1
          subst hne
          rw [hW.out]
          subst hLe
          exact ⟨a, c, rfl, ⟨HX.out.1.1, ownsRow_base HX.out.1.2 (Nat.le_succ _)⟩, HX.out.2.2⟩
    · have d6 : (p.op == 6) = false := by simp [h6]
      have hW : Hid (withinOf (.mk p xs) = [] ++ withinAll xs) := by show _ = _; rw [withinOf, if_neg h6]
      clear h6
      have HS : Hid (OwnN (w.alloc (.cells #[.int .i64 p.op, .int .u64 p.set.a, .int .u64 p.set.b, .int .u64 p.set.c, .int .u64 p.set.d, .int .i64 p.lo, .int .i64 p.hi, .int .i64 p.gr, .slice ad xs.length cap] 28)) (w.heap.size + 1) (.slice none 0 0) [] ∧ Row (w.alloc (.cells #[.int .i64 p.op, .int .u64 p.set.a, .int .u64 p.set.b, .int .u64 p.set.c, .int .u64 p.set.d, .int .i64 p.lo, .int .i64 p.hi, .int .i64 p.gr, .slice ad xs.length cap] 28)) w.heap.size [.int .i64 p.op, .int .u64 p.set.a, .int .u64 p.set.b, .int .u64 p.set.c, .int .u64 p.set.d, .int .i64 p.lo, .int .i64 p.hi, .int .i64 p.gr, .slice ad xs.length cap] 28 ∧ Below w.heap.size w (w.alloc (.cells #[.int .i64 p.op, .int .u64 p.set.a, .int .u64 p.set.b, .int .u64 p.set.c, .int .u64 p.set.d, .int .i64 p.lo, .int .i64 p.hi, .int .i64 p.gr, .slice ad xs.length cap] 28))) :=
        ⟨⟨fun _ => rfl, World.ownsRow_nil _ _ _ _⟩, Row.new rfl, (Below.refl _ w).alloc (Nat.le_refl _) _⟩
      go_enter Try.func84, Try.ntmps84
      go_wp2_with fail
      go_loopw [3, 17] (fun v i wr => ∃ (k : Nat) (a : Option Addr) (n c : Nat) (L : List Nat), k ≤ xs.length ∧ v = .slice a n c ∧ i = .int .i64 k ∧ n ≤ 1000001 ∧ Hid (n = L.length ∧ L = ([] : List Nat) ++ withinAll (xs.take k)) ∧ Hid (OwnN wr (w.heap.size + 1) (.slice a n c) L ∧ Row wr w.heap.size [.int .i64 p.op, .int .u64 p.set.a, .int .u64 p.set.b, .int .u64 p.set.c, .int .u64 p.set.d, .int .i64 p.lo, .int .i64 p.hi, .int .i64 p.gr, .slice ad xs.length cap] 28 ∧ Below w.heap.size w wr)) (fun _ i _ => xs.length - (intOf i).toNat)
      case atStart =>
        exact ⟨0, none, 0, 0, ([] : List Nat), Nat.zero_le _, rfl, rfl, by omega, ⟨rfl, by simp [withinAll]⟩, HS.out⟩
      case round =>
        obtain ⟨k, a, n, c, L, hk, rfl, rfl, hnle, HL, HX⟩ := hrel
        have q1 := HX.out.2.1.c9
        have hB := HX.out.2.1.lt
        have HBL : Hid (Below wb.heap.size wb wr) := HBW.out.trans (HX.out.2.2.mono HBW.out.size)
        have hml : xs.length ≤ 1000000 := by omega
        by_cases hlt : k < xs.length
        · obtain ⟨b, o, p', ad1, n1, cap1, rfl, HC, HI0, hbb⟩ := HAL.out.kid HBL.out k hlt
          have hltI : (k : Int) < xs.length := by omega
          have hcap : n ≤ c := by
            have h2 := HX.out.1.2
            rw [← HL.out.1] at h2
            rcases h2.2 with ⟨e1, e2⟩ | ⟨g, cap, cur, hv, hg, hcur, hnc, hcm, hsz, hxs⟩
            · omega
            · injection hv with _ _ e3; omega
          go_wp2_with (first | (with_reducible (refine wpList_load_agg rfl 28 _ rfl b (o + (k * 9)) rfl _ _ HC.out Try.underlying28 rfl (size_re9 _ _ _ _ _ _ _ _ _) ?_)))
          have hsg := Re.size_get (xs := xs) (i := k) (a := xs[k]) (by simp [hlt])
          have hoksz := hid hsg
          have HE : Hid (withinAll (xs.take (k + 1)) = withinAll (xs.take k) ++ withinOf xs[k]) := by
            show _ = _
            rw [List.take_add_one, List.getElem?_eq_getElem hlt, withinAll_app]
            simp [withinAll]
          have hwl := withinOf_le xs[k]
          have hwt := withinAll_take_le xs (k + 1)
          have hLL : L.length = n := HL.out.1.symm
          have hL2 : L.length = 0 + (withinAll (xs.take k)).length := by rw [HL.out.2]; simp; try omega
          have hL3 := HE.out
          have hL4 : (withinAll (xs.take (k + 1))).length = (withinAll (xs.take k)).length + (withinOf xs[k]).length := by rw [hL3, List.length_append]
          clear hL3
          refine (HIH.out xs[k] (List.getElem_mem _) _ _ HI0.out (Re.oks_in HOK.out k hlt) (HBL.out.alloc (by have := HBL.out.size; exact this) _) (by omega)).mono ?_
          rintro e w2 ⟨a2, c2, rfl, hown2, hb2⟩
          have hb3 := ((Below.refl _ wr).alloc (Nat.le_refl _) (.cells #[.int .i64 p'.op, .int .u64 p'.set.a, .int .u64 p'.set.b, .int .u64 p'.set.c, .int .u64 p'.set.d, .int .i64 p'.lo, .int .i64 p'.hi, .int .i64 p'.gr, .slice ad1 n1 cap1] 28)).trans (hb2.mono (by simp))
          have HX3 := hid (⟨HX.out.1.below hb3, HX.out.2.1.below hb3 HX.out.2.1.lt, HX.out.2.2.trans (hb3.mono HX.out.2.2.size)⟩ : OwnN w2 _ _ _ ∧ Row w2 _ _ _ ∧ Below _ _ w2)
          have HW := hid hown2
          have hsw := hb3.size
          have hnb : n + (withinOf xs[k]).length ≤ 1000001 := by omega
          rw [← hLL] at hnb hcap
          clear hb2 hb3 hown2 q1 hL2 hL4 hwt hwl
          generalize hwi : withinOf xs[k] = wi at *
          by_cases hwe : wi = []
          · subst hwe
            have e0 := HW.out.1 rfl
            injection e0 with e1 _ e3
            subst e1; subst e3
            have hn0 : n = L.length := hLL.symm
            subst hn0
            simp only [List.length_nil]
            have hnn : (L.length : Int) ≤ c := by omega
            have hfin : ∀ (a' : Option Addr), a' = a → Hid (OwnN w2 (w.heap.size + 1) (.slice a' L.length c) L ∧ Row w2 w.heap.size [.int .i64 p.op, .int .u64 p.set.a, .int .u64 p.set.b, .int .u64 p.set.c, .int .u64 p.set.d, .int .i64 p.lo, .int .i64 p.hi, .int .i64 p.gr, .slice (some ⟨b, o, none⟩) xs.length cap] 28 ∧ Below w.heap.size w w2) := fun a' e => by subst e; exact HX3.out
            have HFIN := hid hfin
            clear hfin
            have hLc : L.length ≤ c := by omega
            rcases HX3.out.1.2.2 with ⟨e1, e2⟩ | ⟨g, cap', cur, hv, -⟩
            · injection e1 with e1 _ e3
              have ha := HFIN.out none e1.symm
              have HA2 := hid ha
              clear ha HFIN
              subst e1; subst e3
              have hl0 : L = [] := List.eq_nil_of_length_eq_zero e2
              subst hl0
              simp only [List.length_nil]
              go_wp2_with fail
              refine ⟨⟨k + 1, none, 0, 0, [], by omega, rfl, by go_num, by omega, ⟨rfl, by rw [HE.out, List.append_nil]; exact HL.out.2⟩, HA2.out⟩, ?_⟩
              simp [intOf]; omega
            · injection hv with e1 _ e3
              clear e3
              have ha := HFIN.out (some ⟨g, 0, none⟩) e1.symm
              have HA2 := hid ha
              clear ha HFIN
              subst e1
              go_wp2_with fail
              refine ⟨⟨k + 1, some ⟨g, 0, none⟩, L.length, _, L, by omega, rfl, by go_num, by simpa using hnb, ⟨rfl, by rw [HE.out, List.append_nil]; exact HL.out.2⟩, HA2.out⟩, ?_⟩
              simp [intOf]; omega
          · have hpos : 0 < wi.length := List.length_pos_iff.2 hwe
            obtain ⟨g2, hg2, hrow2⟩ : ∃ g2, a2 = some ⟨g2, 0, none⟩ ∧ ∀ j u, (nums wi)[j]? = some u → w2.cell? ⟨g2, j, none⟩ = some u := by
              rcases HW.out.2.2 with ⟨e1, e2⟩ | ⟨g, cap, cur, hv, hg, hcur, hnc, hcm, hsz, hxs⟩
              · omega
              · injection hv with e1 _ e3
                refine ⟨g, e1, fun j u hj => ?_⟩
                have := World.ownsRow.cells HW.out.2 (g := g) (by rw [e1]; rfl) j u hj
                rw [Addr.add_lit, Nat.zero_add] at this
                exact this
            subst hg2
            subst hLL
            have HRW := hid hrow2
            clear hrow2
            go_wp2_with (at_builtin; refine wpList_append_row rfl _ _ 69 rfl (w.heap.size + 1) 3 i0 (.int .i64 0) 1 8 Try.underlying69 hi hz0 hz1 hz2 rfl (by decide) _ L.length (nums L) rfl HX3.out.1.2 ⟨g2, 0, none⟩ wi.length c2 (nums wi) rfl (by simp [nums]) ?c1 ?c2 ?c3 ?c4 ?c5 hpos ?_)
            case c1 => intro j u hj; rw [Addr.add_lit, Nat.zero_add]; exact HRW.out j u hj
            case c2 => intro u hu; unfold nums at hu; obtain ⟨x, -, rfl⟩ := List.mem_map.1 hu; rfl
            case c3 => unfold maxLen; omega
            case c4 => omega
            case c5 => omega
            intro a3 c3 w3 hown3 hgrow hnw
            have HX4 : Hid (OwnN w3 (w.heap.size + 1) (.slice a3 (L.length + wi.length) c3) (L ++ wi) ∧ Row w3 w.heap.size [.int .i64 p.op, .int .u64 p.set.a, .int .u64 p.set.b, .int .u64 p.set.c, .int .u64 p.set.d, .int .i64 p.lo, .int .i64 p.hi, .int .i64 p.gr, .slice (some ⟨b, o, none⟩) xs.length cap] 28 ∧ Below w.heap.size w w3) := by
              have hv : ∀ g, (Value.slice a L.length c).ownBlock = some g → w.heap.size + 1 ≤ g := fun g hg => (World.ownsRow.lt HX3.out.1.2 g hg).1
              have h0 := HX3.out.2.1.lt
              refine ⟨OwnN.app hwe hown3 rfl, ?_, ?_⟩
              · exact (hgrow.block w.heap.size h0 (fun e => by have := hv _ e.symm; omega)).trans HX3.out.2.1
              · exact HX3.out.2.2.grown hgrow (by omega) (fun g hg => by have := hv g hg; omega)
            clear hown3 hgrow hnw
            go_wp2_with fail
            refine ⟨⟨k + 1, a3, L.length + wi.length, c3, L ++ wi, by omega, rfl, by go_num, hnb, ⟨by rw [List.length_append], by rw [HE.out, HL.out.2, List.append_assoc]⟩, HX4.out⟩, ?_⟩
            simp [intOf]; omega
        · obtain rfl : k = xs.length := by omega
          go_wp2_with fail
          go_ret
          have hLe : L = ([] : List Nat) ++ withinAll xs := by rw [HL.out.2, List.take_length]
          have hne := HL.out.1
          subst hne
          rw [hW.out]
          subst hLe
          exact ⟨a, c, rfl, ⟨HX.out.1.1, ownsRow_base HX.out.1.2 (Nat.le_succ _)⟩, HX.out.2.2⟩
end Go.Proofs.Ythnpbopnpdlmnaa
