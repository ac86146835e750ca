/- The reference's store: Create, Read, Sync, Remove. -/
import Derived.Test.YtnncbbfbnccnbaaRs3
import Derived.Test.YtnncbbfbnccnbaaCalm
namespace Go.Proofs.Ytnncbbfbnccnbaa
open Go.RowKit
attribute [local go_sem] gives givesUpon

/-- The first file of a name. -/
def First (nm : List UInt8) (L : List Fl) (i : Nat) : Prop := ∃ h : i < L.length, (L[i].name == nm) = true ∧ ∀ j (hj : j < L.length), j < i → (L[j].name == nm) = false
theorem First.find {nm : List UInt8} {L : List Fl} {i : Nat} (h : First nm L i) : ∃ hi : i < L.length, L.find? (fun f => f.name == nm) = some L[i] := by
  obtain ⟨hi, h1, h2⟩ := h
  refine ⟨hi, ?_⟩
  rw [List.find?_eq_some_iff_getElem]
  exact ⟨h1, i, hi, rfl, fun j hj => by simpa using h2 j (by omega) hj⟩
theorem First.setAt {nm : List UInt8} (g : Fl → Fl) : ∀ {L : List Fl} {i : Nat} (h : First nm L i), upd nm g L = L.set i (g (L[i]'h.1))
  | x :: L, 0, h => by
    obtain ⟨h0, h1, h2⟩ := h
    have h1' : (x.name == nm) = true := h1
    simp [upd, h1']
  | x :: L, i + 1, h => by
    obtain ⟨h0, h1, h2⟩ := h
    have hx : (x.name == nm) = false := h2 0 (by simp) (by omega)
    have hf : First nm L i := ⟨Nat.lt_of_succ_lt_succ h0, h1, fun j hj hji => h2 (j + 1) (by simp; omega) (by omega)⟩
    unfold upd
    rw [if_neg (by rw [hx]; simp), First.setAt g hf]
    rfl
theorem First.erase {nm : List UInt8} : ∀ {L : List Fl} {i : Nat} (_h : First nm L i) (_ha : L.Pairwise fun f g => (f.name == g.name) = false), L.eraseIdx i = L.filter fun f => !(f.name == nm)
  | x :: L, 0, h, ha => by
    obtain ⟨h0, h1, h2⟩ := h
    have h1' : (x.name == nm) = true := h1
    rw [List.pairwise_cons] at ha
    rw [List.filter_cons_of_neg (by simp [h1']), filter_none ?_]
    · rfl
    · intro g hg
      have := ha.1 g hg
      have e : x.name = nm := by simpa using h1'
      rw [← e]
      rw [beq_eq_false_iff_ne] at this ⊢
      exact Ne.symm this
  | x :: L, i + 1, h, ha => by
    obtain ⟨h0, h1, h2⟩ := h
    have hx : (x.name == nm) = false := h2 0 (by simp) (by omega)
    have hf : First nm L i := ⟨Nat.lt_of_succ_lt_succ h0, h1, fun j hj hji => h2 (j + 1) (by simp; omega) (by omega)⟩
    rw [List.pairwise_cons] at ha
    rw [List.filter_cons_of_pos (by simp [hx]), List.eraseIdx_cons_succ, First.erase hf ha.2]
theorem place_cases (nm : List UInt8) (L : List Fl) : (placeOf nm L = -1 ∧ L.find? (fun f => f.name == nm) = none) ∨ ∃ i : Nat, placeOf nm L = i ∧ First nm L i := by
  unfold placeOf
  cases h : L.findIdx? (fun f => f.name == nm) with
  | none =>
    refine .inl ⟨rfl, ?_⟩
    rw [List.findIdx?_eq_none_iff] at h
    rw [List.find?_eq_none]
    intro x hx
    simpa using h x hx
  | some i =>
    refine .inr ⟨i, rfl, ?_⟩
    rw [List.findIdx?_eq_some_iff_getElem] at h
    obtain ⟨hi, h1, h2⟩ := h
    exact ⟨hi, h1, fun j hj hji => by simpa using h2 j hji⟩
theorem RS.opened_cases (s : RS) (nm : List UInt8) :
    (s.began.crash = true ∧ s.opened nm = .tuple #[.int .i64 0, .int .i64 19]) ∨ (s.began.crash = false ∧ s.ab.began.find nm = none ∧ s.opened nm = .tuple #[.int .i64 0, .int .i64 5]) ∨
    (s.began.crash = false ∧ ∃ i : Nat, First nm s.files i ∧ s.opened nm = .tuple #[.int .i64 i, .int .i64 0]) := by
  rcases Bool.eq_false_or_eq_true s.began.crash with hc | hc
  · exact .inl ⟨hc, by unfold RS.opened; rw [if_pos hc]⟩
  · refine .inr ?_
    rcases place_cases nm s.files with ⟨h1, h2⟩ | ⟨i, h1, h2⟩
    · refine .inl ⟨hc, ?_, ?_⟩
      · unfold Ab.find
        rw [(Go.Proofs.Ytnncbbfbnccnbaa.began_same s.ab).2.2.2]
        exact h2
      · unfold RS.opened
        rw [if_neg (by simp [hc]), h1, if_pos (by omega)]
    · refine .inr ⟨hc, i, h2, ?_⟩
      unfold RS.opened
      rw [if_neg (by simp [hc]), h1, if_neg (by omega)]
theorem First.found {nm : List UInt8} {s : RS} {i : Nat} (h : First nm s.files i) : s.ab.began.find nm = some (s.files[i]'h.1) := by
  obtain ⟨hi, h1⟩ := h.find
  unfold Ab.find
  rw [(Go.Proofs.Ytnncbbfbnccnbaa.began_same s.ab).2.2.2]
  exact h1
theorem crash_ab (s : RS) : s.ab.began.crash = s.began.crash := by rw [← RS.ab_began]; rfl
def RfPost (base B : Nat) (s : RS) (res : Int × Ab) (w : World) (e : Ending) (w' : World) : Prop := ∃ s', e = .returned (.int .i64 res.1) ∧ s'.ab = res.2 ∧ RStep base B s s' w w'
theorem RfPost.mk {base B : Nat} {s s' : RS} {res : Int × Ab} {w w' : World} {n : Int} (h1 : res = (n, s'.ab)) (h2 : RStep base B s s' w w') : RfPost base B s res w (.returned (.int .i64 n)) w' := ⟨s', by rw [h1], by rw [h1], h2⟩
set_option maxRecDepth 100000 in
set_option maxHeartbeats 4000000 in
theorem rCreate_any (w : World) (B base : Nat) (s : RS) (nm : ByteArray) (h : s.At w B base) (hc : s.cnt) (hl : s.files.length ≤ 64) (hn : nm.size ≤ 1000000000) (hbase : base ≤ w.heap.size) :
    Calls Try.prog 33 #[.pointer (some ⟨B, 0, none⟩), .string nm] w (RfPost base B s (s.ab.create nm.data.toList) w) := by
  have HF := hid (fails_any w B base s h hc)
  have e1 : s.ab.began = s.began.ab := s.ab_began.symm
  have e2 : s.began.files = s.files := s.began_same.1
  have HV : Hid (s.ab.create nm.data.toList = if s.began.crash = true then ((19 : Int), s.began.ab) else if nameOk nm.data.toList = false then ((4 : Int), s.began.ab) else match s.began.files.find? (fun f => f.name == nm.data.toList) with
    | some _ => ((6 : Int), s.began.ab)
    | none => if 64 ≤ s.began.files.length then ((3 : Int), s.began.ab) else ((0 : Int), { s.began.ab with files := ins ⟨nm.data.toList, [], 0⟩ s.began.files })) := by
    show _ = _
    unfold Ab.create
    rw [e1]; rfl
  rw [← e2] at hl
  clear h hc e1 e2
  generalize s.ab.create nm.data.toList = res at *
  generalize s.began = s1 at *
  go_enter Try.func33, Try.ntmps33
  rcases Bool.eq_false_or_eq_true s1.crash with hcr | hcr
  · have HE : Hid (res = (19, s1.ab)) := by show _ = _; rw [HV.out, if_pos hcr]
    rw [hcr] at HF
    clear HV hcr
    go_wp2_with fail
    refine HF.out.mono ?_
    rintro e w1 ⟨rfl, hs1⟩
    have HS := hid hs1
    clear hs1 HF
    go_wp2_with fail
    all_goals go_ret
    all_goals exact RfPost.mk HE.out HS.out
  rw [if_neg (by simp [hcr])] at HV
  rw [hcr] at HF
  clear hcr
  go_wp2_with fail
  refine HF.out.mono ?_
  rintro e w1 ⟨rfl, hs1⟩
  have HS := hid hs1
  clear hs1 HF
  go_wp2_with fail
  refine (RefName_any nm w1 hn).mono ?_
  rintro e w2 ⟨rfl, rfl⟩
  rcases Bool.eq_false_or_eq_true (nameOk nm.data.toList) with hno | hno
  case inr =>
    have HE : Hid (res = (4, s1.ab)) := by show _ = _; rw [HV.out, if_pos hno]
    rw [hno]
    clear HV hno
    go_wp2_with fail
    all_goals go_ret
    all_goals exact RfPost.mk HE.out HS.out
  rw [if_neg (by simp [hno])] at HV
  rw [hno]
  clear hno
  go_wp2_with fail
  refine (place_any w2 B base s1 nm HS.out.at' (by omega)).mono ?_
  rintro e w3 ⟨rfl, rfl⟩
  rcases place_cases nm.data.toList s1.files with ⟨hp, hfn⟩ | ⟨i, hp, hfi⟩
  case inr =>
    obtain ⟨hi, hff⟩ := hfi.find
    have HE : Hid (res = (6, s1.ab)) := by show _ = _; rw [HV.out, hff]
    rw [hp]
    clear HV hff hfi hp
    go_wp2_with fail
    all_goals go_ret
    all_goals exact RfPost.mk HE.out HS.out
  rw [hfn] at HV
  rw [hp]
  clear hp hfn
  obtain ⟨av, cv, hv⟩ := ownsRow_shape HS.out.at'.files
  have q := Row.five HS.out.at'.row
  rw [hv] at q
  rcases Nat.lt_or_ge s1.files.length 64 with h64 | h64
  case inr =>
    have HE : Hid (res = (3, s1.ab)) := by show _ = _; rw [HV.out]; exact if_pos h64
    clear HV
    go_wp2_with fail
    all_goals go_ret
    all_goals exact RfPost.mk HE.out HS.out
  have HE : Hid (res = (0, { s1.ab with files := ins ⟨nm.data.toList, [], 0⟩ s1.files })) := by show _ = _; rw [HV.out]; exact if_neg (by omega)
  clear HV
  have HPU := hid (rput_any w3 B base s1 ⟨nm.data.toList, [], 0⟩ HS.out.at' (by omega) (by have := HS.out.but.size; omega))
  unfold rcells at HPU
  simp only [] at HPU
  go_wp2_with fail
  refine HPU.out.mono ?_
  rintro e w4 ⟨v, rfl, hs4⟩
  have HS4 := hid (HS.out.trans hs4)
  clear hs4
  go_wp2_with fail
  all_goals go_ret
  all_goals
    refine RfPost.mk ?_ HS4.out
    rw [HE.out]
    show _ = ((0 : Int), Ab.mk _ (total (ins ⟨nm.data.toList, [], 0⟩ s1.files) : Nat) _ _ _ _)
    rw [ins_total]
    show _ = ((0 : Int), Ab.mk _ ((0 + total s1.files : Nat) : Int) _ _ _ _)
    rw [Nat.zero_add]
    rfl
end Go.Proofs.Ytnncbbfbnccnbaa
