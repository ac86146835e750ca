/- The law StoreKeeps: its walk answers true. -/
import Derived.Test.YtnncbbfbnccnbaaFilled
import Derived.Maps.AppendAt
namespace Go.Proofs.Ytnncbbfbnccnbaa
open Go.RowKit Go.Maps Go.Sort
attribute [local go_sem] gives givesUpon

def txts (L : List Fl) : List (List UInt8) := L.map Fl.text
def txv (L : List Fl) : List Value := L.map fun f => .string ⟨f.text.toArray⟩
theorem txv_take (L : List Fl) (k : Nat) (h : k < L.length) : (txv L).take (k + 1) = (txv L).take k ++ [.string ⟨L[k].text.toArray⟩] := by
  unfold txv
  rw [← List.map_take, ← List.map_take, List.take_add_one, List.getElem?_eq_getElem h, List.map_append]
  rfl
theorem texts_of {w : World} {base tc n : Nat} {ta : Option Addr} {L : List Fl} (h : w.ownsRow base 9 1 (.slice ta n tc) n (txv L)) (hn : n = L.length) : TextsAt w ta (txts L) ∧ ∀ k, k ∈ blkOf ta → base ≤ k ∧ k < w.heap.size := by
  have hh := h
  obtain ⟨-, hx⟩ := hh
  rcases hx with ⟨hv, h1⟩ | ⟨g, c, cur, hv, -, hg, -⟩
  · injection hv with e1 e2 e3
    subst e1
    refine ⟨.inl ?_, fun k hk => by cases hk⟩
    have : L = [] := List.eq_nil_of_length_eq_zero (by omega)
    subst this
    rfl
  · injection hv with e1 e2 e3
    subst e1
    refine ⟨.inr ⟨g, rfl, (h.lt g rfl).2, fun i hi => ?_⟩, fun k hk => ?_⟩
    · have hi2 : i < L.length := by have h2 : (txts L).length = L.length := List.length_map ..; omega
      have e : (txts L)[i] = L[i].text := List.getElem_map ..
      rw [e]
      have := h.cells (g := g) rfl i (.string ⟨L[i].text.toArray⟩) (by unfold txv; rw [List.getElem?_map, List.getElem?_eq_getElem hi2]; rfl)
      rw [Addr.add_lit, Nat.zero_add] at this
      exact this
    · obtain rfl : k = g := by simpa [blkOf] using hk
      exact h.lt k rfl
theorem rsts_at (kept : Nat) : ∀ (l : List Fl) (j i : Nat) (h : i < (rsts kept j l).length) (h2 : i < l.length), (rsts kept j l)[i] = rst kept (j + i) l[i]
  | x :: l, j, 0, _, _ => rfl
  | x :: l, j, i + 1, h, h2 => by
    have := rsts_at kept l (j + 1) i (Nat.lt_of_succ_lt_succ h) (Nat.lt_of_succ_lt_succ h2)
    rw [show j + 1 + i = j + (i + 1) by omega] at this
    exact this
/-- What a file keeps. -/
theorem rst_at (kept i : Nat) (f : Fl) (h : 0 ≤ f.sync ∧ f.sync ≤ f.text.length) : ∃ kn : Nat, rst kept i f = ⟨f.name, f.text.take kn, kn⟩ ∧ f.sync ≤ kn ∧ kn ≤ f.text.length :=
  ⟨_, rfl, by unfold keep; omega, by unfold keep; omega⟩
theorem fail_one {a : Ab} (h : a.calm) : a.fail 1 = { a with count := 1 } := by
  unfold Ab.fail
  rw [h.1]
  rfl
theorem create_dead (a : Ab) (h : a.crash = false) (nm : List UInt8) : ({ a with count := 1 } : Ab).create nm = (19, { a with crash := true, count := 0 }) := by
  obtain ⟨l, u, p, fs, cr, ct⟩ := a
  simp only at h
  subst h
  rfl
theorem sync_dead (a : Ab) (nm : List UInt8) : ({ a with crash := true, count := 0 } : Ab).sync nm = (19, { a with crash := true, count := 0 }) := by
  obtain ⟨l, u, p, fs, cr, ct⟩ := a
  rfl
theorem dead_good {a : Ab} (h : a.good) : ({ a with crash := true, count := 0 } : Ab).good := ⟨⟨h.ok.used, h.ok.limit, h.ok.peak, h.ok.sync, ⟨Int.le_refl _, (by show (0 : Int) ≤ 9223372036854775807; decide)⟩⟩, h.few, h.names⟩
theorem one_good {a : Ab} (h : a.good) : ({ a with count := 1 } : Ab).good := ⟨⟨h.ok.used, h.ok.limit, h.ok.peak, h.ok.sync, ⟨(by show (0 : Int) ≤ 1; decide), (by show (1 : Int) ≤ 9223372036854775807; decide)⟩⟩, h.few, h.names⟩
set_option maxRecDepth 100000 in
set_option maxHeartbeats 8000000 in
theorem LawKeeps_any (w : World) (n : Int) (a : Option Addr) (cap : Nat) (l : List CallD) (kept : Nat) (hl : CallsAt w a l) (hn : l.length ≤ 4611686018427387904) (hf : CallsFit l) (_hm : kept ≤ 18446744073709551615) :
    Calls Try.prog 6 #[.int .i64 n, .slice a l.length cap, .int .u64 kept] w fun e w' => e = .returned (.bool true) ∧ Below w.heap.size w w' := by
  have HL := hid hl
  have HF := hid hf
  clear hl hf
  go_enter Try.func6, Try.ntmps6
  go_wp2_with fail
  refine (few_any w a cap l HL.out hn).mono ?_
  rintro e w0 ⟨b, rfl, rfl, hb⟩
  cases b with
  | false =>
    go_wp2_with fail
    refine (awake_any _).mono ?_
    rintro e wz ⟨rfl, hbz⟩
    have HZ := hid hbz
    clear hbz
    go_wp2_with fail
    go_ret
    exact ⟨rfl, HZ.out⟩
  | true =>
    have HFEW := hid (hb rfl)
    clear hb
    go_wp2_with fail
    refine (Filled_any _ n a cap l HL.out hn HF.out HFEW.out).mono ?_
    rintro e wa ⟨rfl, ab, ho, hg, hq⟩
    have HO := hid ho
    have HG := hid hg
    have HQ := hid hq
    clear ho hg hq
    go_wp2_with fail
    refine (HO.out.x.list HG.out).mono ?_
    rintro e wb ⟨p, pc, rfl, hfl, hox, hbx⟩
    have HFL := hid hfl
    have HOX := hid hox
    clear hfl hox hbx HO
    go_wp2_with fail
    go_loopw [9, 10] (fun tv i wr => ∃ (k : Nat) (ta : Option Addr) (tc : Nat), k ≤ ab.files.length ∧ tv = .slice ta k tc ∧ i = .int .i64 k ∧ Hid (wr.ownsRow wb.heap.size 9 1 (.slice ta k tc) k ((txv ab.files).take k)) ∧ Hid (Below wb.heap.size wb wr)) (fun _ i _ => ab.files.length - (intOf i).toNat)
    case atStart => exact ⟨0, none, 0, by omega, rfl, rfl, World.ownsRow_nil _ _ _ _, Below.refl _ _⟩
    case round =>
      obtain ⟨k, ta, tc, hk, rfl, rfl, HT, HB⟩ := hrel
      rcases Nat.lt_or_ge k ab.files.length with hlt | hge
      · have hfa := HFL.out.below HB.out
        obtain ⟨fb, rfl, hfb, hfc⟩ : ∃ b, p = some ⟨b, 0, none⟩ ∧ b < wr.heap.size ∧ ∀ i (h : i < ab.files.length), CellsAt wr b (i * 3) (fcells ab.files[i]) := by
          rcases hfa with h | h
          · rw [h] at hlt; cases hlt
          · exact h
        obtain ⟨c0, c1, c2⟩ := cells3 (hfc k hlt)
        have hfew := HG.out.few
        have hkI : (k : Int) < (ab.files.length : Int) := by omega
        have hk64 : (k : Int) ≤ 64 := by omega
        have hsy := HG.out.ok.sync _ (List.getElem_mem hlt)
        have hd : decide (((ab.files[k].text.length : Nat) : Int) < ab.files[k].sync) = false := by simp; omega
        have HR := hid (fun n => (HOX.out.more (HB.out.trans (below_drewN (Below.refl _ _) n |>.mono HB.out.size))).one.readAll HG.out HQ.out.1 HQ.out.2 k hlt)
        obtain ⟨i0, hi, hz0, hz1, hz2⟩ := info_parts info_str
        have HTD := hid (fun (m : Nat) (o : Obj) => ((HT.out.kept (w' := wr.drewN m) ⟨rfl, rfl, rfl, Nat.le_refl _, fun _ _ _ => rfl⟩ (Classical.em _)).alloc o : ((wr.drewN m).alloc o).ownsRow wb.heap.size 9 1 (.slice ta k tc) k ((txv ab.files).take k)))
        have hszb := HB.out.size
        clear hfa hfc
        go_wp2_with fail
        go_quiet ((go_at_call 13; refine Calls.quiet_of (HR.out _)))
        go_wp2_with fail
        go_quiet (fail)
        go_wp2_with (at_builtin; refine wpList_append_row rfl _ _ 22 rfl wb.heap.size 9 i0 (.string ⟨#[]⟩) 1 16 Try.underlying22 hi hz0 hz1 hz2 rfl (by decide) _ k ((txv ab.files).take k) rfl (HTD.out _ _) ⟨wr.heap.size, 0, none⟩ 1 1 [.string ⟨ab.files[k].text.toArray⟩] rfl rfl ?c1 ?c2 ?c3 ?c4 ?c5 (by decide) ?_)
        case c1 => exact cell_one_new _ _ _
        case c2 => simp [Value.oneCell']
        case c3 => unfold maxLen; omega
        case c4 => omega
        case c5 => simp; omega
        intro a2 c2 w3 hown hgrow hnw
        have HOWN := hid hown
        have hb3 : Below wb.heap.size wb w3 := ((below_drewN HB.out _).alloc (by simpa using hszb) _).grown hgrow (by simp; omega) (fun j hj => (HT.out.lt j hj).1)
        have HB3 := hid hb3
        clear hown hgrow hnw hi hz0 hz1 hz2 hb3
        clear i0
        go_wp2_with fail
        case roundEnd =>
          refine ⟨⟨k + 1, a2, c2, hlt, rfl, rfl, ?_, HB3.out⟩, ?_⟩
          · rw [txv_take _ _ hlt]
            exact HOWN.out
          · show ab.files.length - ((k : Int) + 1).toNat < ab.files.length - (k : Int).toNat
            omega
      · obtain rfl : k = ab.files.length := by omega
        rw [show (txv ab.files).take ab.files.length = txv ab.files by rw [List.take_of_length_le (by unfold txv; rw [List.length_map]; exact Nat.le_refl _)]] at HT
        obtain ⟨htx, hbk⟩ := texts_of HT.out rfl
        have HTX := hid htx
        have HOX2 := hid (HOX.out.add (fun k hk => (hbk k hk).1) HB.out (fun k hk => (hbk k hk).2))
        have HFL2 := hid (HFL.out.below HB.out)
        have hX1 : ∀ k, k ∈ blkOf p → k ∈ ([] ++ blkOf p) ++ blkOf ta := fun k hk => by simp [hk]
        have hX2 : ∀ k, k ∈ blkOf ta → k ∈ ([] ++ blkOf p) ++ blkOf ta := fun k hk => by simp [hk]
        have HX1 := hid hX1
        have HX2 := hid hX2
        clear htx hbk HOX HFL HT hX1 hX2
        generalize ([] ++ blkOf p) ++ blkOf ta = X at *
        go_wp2_with fail
        refine (HOX2.out.fail 1).mono ?_
        rintro e w2 ⟨rfl, hox, hk2⟩
        rw [fail_one HQ.out] at hox
        have HO3 := hid hox
        have HK2 := hid hk2
        clear hox hk2 HOX2
        go_wp2_with fail
        refine (HO3.out.create (one_good HG.out).ok ⟨#[122, 122]⟩ (by decide) (create_dead ab HQ.out.1 _)).mono ?_
        rintro e w3 ⟨rfl, hox, hk3⟩
        have HO4 := hid hox
        have HK3 := hid (HK2.out.trans hk3)
        clear hox hk3 HO3 HK2
        go_wp2_with fail
        refine (HO4.out.sync (dead_good HG.out).ok ⟨#[122, 122]⟩ (by decide) (sync_dead ab _)).mono ?_
        rintro e w4 ⟨rfl, hox, hk4⟩
        have HO5 := hid hox
        have HK4 := hid (HK3.out.trans hk4)
        clear hox hk4 HO4 HK3
        go_wp2_with fail
        refine (HO5.out.restart (dead_good HG.out) kept).mono ?_
        rintro e w5 ⟨rfl, hox, hk5⟩
        have HO6 := hid hox
        have HK5 := hid (HK4.out.trans hk5)
        have hg3 := ((dead_good HG.out).restart kept).1
        have HG3 := hid hg3
        have HFS : Hid ((({ ab with crash := true, count := 0 } : Ab).restart kept).files = rsts kept 0 ab.files) := rfl
        have HCM : Hid (({ ab with crash := true, count := 0 } : Ab).restart kept).calm := ⟨rfl, rfl⟩
        clear hox hk5 HO5 HK4 hg3
        generalize ({ ab with crash := true, count := 0 } : Ab).restart kept = ac at *
        go_wp2_with fail
        refine (HO6.out.list HG3.out).mono ?_
        rintro e w6 ⟨p2, pc2, rfl, hfl, hox, hb6⟩
        have HF6 := hid hfl
        have HO7 := hid hox.one
        have HK6 := hid (HK5.out.trans (Kept.below hb6 HO6.out.lt))
        have HF1 := hid (HFL2.out.kept HK6.out HX1.out)
        have HT1 := hid (HTX.out.kept HK6.out HX2.out)
        have HTL := hid (fun k (hk : k ∈ blkOf ta) => (Nat.lt_of_lt_of_le (HO6.out.lt k (HX2.out k hk)) hb6.size : k < w6.heap.size))
        clear hfl hox hb6 HO6 HK5 HFL2 HTX HX1 HX2 HK6
        have hlen : ac.files.length = ab.files.length := by rw [HFS.out, rsts_len]
        rw [hlen]
        go_wp2_with fail
        go_loopw [14] (fun i wx => ∃ k : Nat, k ≤ ab.files.length ∧ i = .int .i64 k ∧ Hid (Below w6.heap.size w6 wx)) (fun i _ => ab.files.length - (intOf i).toNat)
        case atStart => exact ⟨0, by omega, rfl, Below.refl _ _⟩
        case round =>
          obtain ⟨k, hk, rfl, HBX⟩ := hrel
          rcases Nat.lt_or_ge k ab.files.length with hlt | hge
          · have hlt3 : k < ac.files.length := by omega
            have hfa := HF6.out.below HBX.out
            have hfb := HF1.out.below HBX.out
            have htt := HT1.out.kept (X := blkOf ta) (Kept.below HBX.out (HTL.out)) (fun _ h => h)
            obtain ⟨fa, rfl, hfa1, hfa2⟩ : ∃ b, p2 = some ⟨b, 0, none⟩ ∧ b < wr.heap.size ∧ ∀ i (h : i < ac.files.length), CellsAt wr b (i * 3) (fcells ac.files[i]) := by
              rcases hfa with h | h
              · rw [h] at hlt3; cases hlt3
              · exact h
            obtain ⟨fb, rfl, hfb1, hfb2⟩ : ∃ b, p = some ⟨b, 0, none⟩ ∧ b < wr.heap.size ∧ ∀ i (h : i < ab.files.length), CellsAt wr b (i * 3) (fcells ab.files[i]) := by
              rcases hfb with h | h
              · rw [h] at hlt; cases hlt
              · exact h
            obtain ⟨tb, rfl, htb1, htb2⟩ : ∃ b, ta = some ⟨b, 0, none⟩ ∧ b < wr.heap.size ∧ ∀ i (h : i < ab.files.length), wr.cell? ⟨b, i, none⟩ = some (.string ⟨ab.files[i].text.toArray⟩) := by
              rcases htt with h | ⟨b, h1, h2, h3⟩
              · have : ab.files = [] := List.map_eq_nil_iff.1 h
                rw [this] at hlt; cases hlt
              · refine ⟨b, h1, h2, fun i hi => ?_⟩
                have := h3 i (by have h2 : (txts ab.files).length = ab.files.length := List.length_map ..; omega)
                rw [this]
                have e : (txts ab.files)[i]'(by have h2 : (txts ab.files).length = ab.files.length := List.length_map ..; omega) = ab.files[i].text := List.getElem_map ..
                rw [e]
            have hsy := HG.out.ok.sync _ (List.getElem_mem hlt)
            have hfw := HG.out.few
            obtain ⟨kn, hr, hs1, hs2⟩ := rst_at kept k ab.files[k] hsy
            have hak : ac.files[k] = ⟨ab.files[k].name, ab.files[k].text.take kn, kn⟩ := by
              have e1 : ac.files[k] = (rsts kept 0 ab.files)[k]'(by rw [rsts_len]; exact hlt) := by congr 1
              rw [e1, rsts_at kept _ 0 k _ hlt, Nat.zero_add, hr]
            have HR0 := fun n => (HO7.out.more (HBX.out.trans (below_drewN (Below.refl _ _) n |>.mono HBX.out.size))).readAll HG3.out HCM.out.1 HCM.out.2 k hlt3
            have cA := hfa2 k hlt3
            have cB := cells3 (hfb2 k hlt)
            have cT := htb2 k hlt
            have htxl := ok_text HG.out.ok (List.getElem_mem hlt)
            have hk64 : (k : Int) ≤ 64 := by omega
            have hkI : (k : Int) < (ab.files.length : Int) := by omega
            rw [hak] at HR0 cA
            generalize ab.files[k] = f at *
            have hlk : (f.text.take kn).length = kn := by rw [List.length_take]; omega
            unfold fcells at cA
            simp only [hlk] at HR0 cA
            replace cA := cells3 cA
            have HR := hid HR0
            clear HR0 hfa hfb htt hfa2 hfb2 htb2 hr hak
            obtain ⟨a0, a1, a2⟩ := cA
            obtain ⟨b0, b1, b2⟩ := cB
            have HCC := hid (And.intro hs1 hs2)
            have hc1 : decide ((kn : Int) < f.sync) = false := by simp; omega
            have hc3 : decide (f.text.length < kn) = false := by simp; omega
            have hsz : (⟨f.text.toArray⟩ : ByteArray).size = f.text.length := by show f.text.toArray.size = _; rw [List.size_toArray]
            have hxe : ((⟨f.text.toArray⟩ : ByteArray).extract 0 kn).toList = f.text.take kn := by
              rw [ByteArray.toList_eq, ByteArray.data_extract, Array.toList_extract]
              simp [List.extract]
            generalize hA : (⟨f.text.toArray⟩ : ByteArray) = A at cT hsz hxe
            have HA := hid hA
            clear hA
            have hks : (kn : Int) ≤ (A.size : Int) := by omega
            go_wp2_with fail
            go_quiet ((go_at_call 13; refine Calls.quiet_of (HR.out _)))
            go_wp2_with fail
            go_quiet (fail)
            go_wp2_with fail
            case roundEnd =>
              refine ⟨⟨k + 1, hlt, rfl, below_drewN HBX.out _⟩, ?_⟩
              show ab.files.length - ((k : Int) + 1).toNat < ab.files.length - (k : Int).toNat
              omega
          · obtain rfl : k = ab.files.length := by omega
            go_wp2_with fail
            refine (awake_any _).mono ?_
            rintro e wz ⟨rfl, hbz⟩
            have HZ := hid (HO7.out.below.trans ((HBX.out.trans (hbz.mono HBX.out.size)).mono HO7.out.below.size))
            clear hbz
            go_wp2_with fail
            go_ret
            exact ⟨rfl, HZ.out⟩
end Go.Proofs.Ytnncbbfbnccnbaa
