/- A store that New did not return: its map is nil. -/
import Derived.Test.YtnncbbfbnccnbaaTwoR
namespace Go.Proofs.Ytnncbbfbnccnbaa
open Go.RowKit Go.Maps Go.Sort
attribute [local go_sem] gives givesUpon

def zcells (crash : Bool) (count : Int) : List Value := [.int .i64 0, .int .i64 0, .int .i64 0, .map none, .bool crash, .int .i64 count]
def Zat (w : World) (B : Nat) (crash : Bool) (count : Int) : Prop := Row w B (zcells crash count) 47
def zab (crash : Bool) (count : Int) : Ab := ⟨0, 0, 0, [], crash, count⟩
/-- The countdown of an operation. -/
def zb (crash : Bool) (count : Int) : Bool × Int := if crash = true then (crash, count) else if count = 1 then (true, 0) else if 1 < count then (crash, count - 1) else (crash, count)
theorem zb_ab (crash : Bool) (count : Int) : (zab crash count).began = zab (zb crash count).1 (zb crash count).2 := by
  unfold Ab.began zb zab
  simp only []
  split
  · rfl
  split
  · rfl
  split <;> rfl
structure Zstep (B : Nat) (w w' : World) : Prop where
  but : But [B] w w'
theorem Zstep.refl {B : Nat} {w : World} : Zstep B w w := ⟨But.refl _ _⟩
theorem Zstep.trans {B : Nat} {a b c : World} (h : Zstep B a b) (k : Zstep B b c) : Zstep B a c := ⟨h.but.later k.but fun _ hi => .inl hi⟩
theorem Zat.six {w : World} {B : Nat} {crash : Bool} {count : Int} (h : Zat w B crash count) :
    (w.cell? ⟨B, 0, none⟩ = some (.int .i64 0) ∧ w.cell? ⟨B, 1, none⟩ = some (.int .i64 0) ∧ w.cell? ⟨B, 2, none⟩ = some (.int .i64 0) ∧ w.cell? ⟨B, 3, none⟩ = some (.map none) ∧ w.cell? ⟨B, 4, none⟩ = some (.bool crash) ∧ w.cell? ⟨B, 5, none⟩ = some (.int .i64 count)) ∧
    (w.frozen? ⟨B, 0, none⟩ = false ∧ w.frozen? ⟨B, 1, none⟩ = false ∧ w.frozen? ⟨B, 2, none⟩ = false ∧ w.frozen? ⟨B, 3, none⟩ = false ∧ w.frozen? ⟨B, 4, none⟩ = false ∧ w.frozen? ⟨B, 5, none⟩ = false) :=
  Row.six (show Row w B [.int .i64 0, .int .i64 0, .int .i64 0, .map none, .bool crash, .int .i64 count] _ from h)
theorem Zat.lt {w : World} {B : Nat} {crash : Bool} {count : Int} (h : Zat w B crash count) : B < w.heap.size := Row.lt h
set_option maxHeartbeats 2000000 in
theorem zbegin_any (w : World) (B : Nat) (crash : Bool) (count : Int) (h : Zat w B crash count) (hc : 0 ≤ count ∧ count ≤ 9223372036854775807) :
    Calls Try.prog 28 #[.pointer (some ⟨B, 0, none⟩)] w fun e w' => e = .returned (.bool (zb crash count).1) ∧ Zat w' B (zb crash count).1 (zb crash count).2 ∧ Zstep B w w' := by
  have q := h.six
  have z := h.lt
  have H := hid h
  clear h
  rcases Bool.eq_false_or_eq_true crash with rfl | rfl
  · go_enter Try.func28, Try.ntmps28
    go_wp2_with fail
    all_goals go_ret
    all_goals exact ⟨by simp [zb], by simpa [zb] using H.out, Zstep.refl⟩
  · by_cases h1 : count = 1
    · subst h1
      go_enter Try.func28, Try.ntmps28
      go_wp2_with fail
      all_goals go_ret
      all_goals
        have e0 : zb false 1 = (true, 0) := by simp [zb]
        rw [e0]
        exact ⟨rfl, (Row.set H.out 4 (.bool true)).set 5 (.int .i64 0), ⟨((But.refl [B] w).setCell (.inl (by simp)) _).setCell (.inl (by simp)) _⟩⟩
    · by_cases h2 : 1 < count
      · have d1 : (count == 1) = false := by simpa using h1
        clear h1
        go_enter Try.func28, Try.ntmps28
        go_wp2_with fail
        all_goals go_ret
        all_goals
          have e1 : ¬ count = 1 := by simpa using d1
          have e0 : zb false count = (false, count - 1) := by simp [zb, e1, h2]
          rw [e0]
          exact ⟨rfl, Row.set H.out 5 (.int .i64 (count - 1)), ⟨(But.refl [B] w).setCell (.inl (by simp)) _⟩⟩
      · have d1 : (count == 1) = false := by simpa using h1
        clear h1
        go_enter Try.func28, Try.ntmps28
        go_wp2_with fail
        all_goals go_ret
        all_goals
          have e1 : ¬ count = 1 := by simpa using d1
          have e2 : ¬ 1 < count := by omega
          exact ⟨by simp [zb, e1, e2], by simpa [zb, e1, e2] using H.out, Zstep.refl⟩
theorem zlook (w : World) (nm : ByteArray) : (Instr.lookup 45 (.map none) (.string nm) false).run Try.prog w = .ok (.pointer none) w := by
  kernel_rfl
def zerr (crash : Bool) (count : Int) : Int := if (zb crash count).1 = true then 19 else 5
set_option maxHeartbeats 2000000 in
theorem zopen_any (w : World) (B : Nat) (crash : Bool) (count : Int) (nm : ByteArray) (h : Zat w B crash count) (hc : 0 ≤ count ∧ count ≤ 9223372036854775807) :
    Calls Try.prog 30 #[.pointer (some ⟨B, 0, none⟩), .string nm] w fun e w' => e = .returned (.tuple #[.pointer none, .int .i64 (zerr crash count)]) ∧ Zat w' B (zb crash count).1 (zb crash count).2 ∧ Zstep B w w' := by
  have HB := hid (zbegin_any w B crash count h hc)
  have HE : Hid (zerr crash count = if (zb crash count).1 = true then 19 else 5) := rfl
  generalize zerr crash count = er at *
  generalize zb crash count = z at *
  obtain ⟨z1, z2⟩ := z
  clear h hc
  simp only at HB HE
  rcases Bool.eq_false_or_eq_true z1 with rfl | rfl
  · have e : er = 19 := by rw [HE.out]; rfl
    subst e
    go_enter Try.func30, Try.ntmps30
    go_wp2_with fail
    refine HB.out.mono ?_
    rintro e w1 ⟨rfl, h1, h2⟩
    have H1 := hid h1
    have H2 := hid h2
    clear h1 h2 HB
    go_wp2_with fail
    all_goals go_ret2
    all_goals exact ⟨rfl, H1.out, H2.out⟩
  · have e : er = 5 := by rw [HE.out]; rfl
    subst e
    go_enter Try.func30, Try.ntmps30
    go_wp2_with fail
    refine HB.out.mono ?_
    rintro e w1 ⟨rfl, h1, h2⟩
    have H1 := hid h1
    have H2 := hid h2
    have q := h1.six
    have hlk := zlook w1 nm
    clear h1 h2 HB
    go_wp2_with fail
    all_goals go_ret2
    all_goals exact ⟨rfl, H1.out, H2.out⟩
set_option maxHeartbeats 2000000 in
theorem zSync_any (w : World) (B : Nat) (crash : Bool) (count : Int) (nm : ByteArray) (h : Zat w B crash count) (hc : 0 ≤ count ∧ count ≤ 9223372036854775807) :
    Calls Try.prog 24 #[.pointer (some ⟨B, 0, none⟩), .string nm] w fun e w' => e = .returned (.int .i64 (zerr crash count)) ∧ Zat w' B (zb crash count).1 (zb crash count).2 ∧ Zstep B w w' := by
  have HO := hid (zopen_any w B crash count nm h hc)
  have hne : zerr crash count = 19 ∨ zerr crash count = 5 := by unfold zerr; split <;> simp
  generalize zerr crash count = er at *
  clear h hc
  rcases hne with rfl | rfl
  all_goals
    go_enter Try.func24, Try.ntmps24
    go_wp2_with fail
    refine HO.out.mono ?_
    rintro e w1 ⟨rfl, h1, h2⟩
    have H1 := hid h1
    have H2 := hid h2
    clear h1 h2 HO
    go_wp2_with fail
    all_goals go_ret
    all_goals exact ⟨rfl, H1.out, H2.out⟩
set_option maxHeartbeats 2000000 in
theorem zRemove_any (w : World) (B : Nat) (crash : Bool) (count : Int) (nm : ByteArray) (h : Zat w B crash count) (hc : 0 ≤ count ∧ count ≤ 9223372036854775807) :
    Calls Try.prog 32 #[.pointer (some ⟨B, 0, none⟩), .string nm] w fun e w' => e = .returned (.int .i64 (zerr crash count)) ∧ Zat w' B (zb crash count).1 (zb crash count).2 ∧ Zstep B w w' := by
  have HO := hid (zopen_any w B crash count nm h hc)
  have hne : zerr crash count = 19 ∨ zerr crash count = 5 := by unfold zerr; split <;> simp
  generalize zerr crash count = er at *
  clear h hc
  rcases hne with rfl | rfl
  all_goals
    go_enter Try.func32, Try.ntmps32
    go_wp2_with fail
    refine HO.out.mono ?_
    rintro e w1 ⟨rfl, h1, h2⟩
    have H1 := hid h1
    have H2 := hid h2
    clear h1 h2 HO
    go_wp2_with fail
    all_goals go_ret
    all_goals exact ⟨rfl, H1.out, H2.out⟩
set_option maxHeartbeats 2000000 in
theorem zAppend_any (w : World) (B : Nat) (crash : Bool) (count : Int) (nm tx : ByteArray) (h : Zat w B crash count) (hc : 0 ≤ count ∧ count ≤ 9223372036854775807) :
    Calls Try.prog 12 #[.pointer (some ⟨B, 0, none⟩), .string nm, .string tx] w fun e w' => e = .returned (.int .i64 (zerr crash count)) ∧ Zat w' B (zb crash count).1 (zb crash count).2 ∧ Zstep B w w' := by
  have HO := hid (zopen_any w B crash count nm h hc)
  have hne : zerr crash count = 19 ∨ zerr crash count = 5 := by unfold zerr; split <;> simp
  generalize zerr crash count = er at *
  clear h hc
  rcases hne with rfl | rfl
  all_goals
    go_enter Try.func12, Try.ntmps12
    go_wp2_with fail
    refine HO.out.mono ?_
    rintro e w1 ⟨rfl, h1, h2⟩
    have H1 := hid h1
    have H2 := hid h2
    clear h1 h2 HO
    go_wp2_with fail
    all_goals go_ret
    all_goals exact ⟨rfl, H1.out, H2.out⟩
set_option maxHeartbeats 2000000 in
theorem zRename_any (w : World) (B : Nat) (crash : Bool) (count : Int) (nm tx : ByteArray) (h : Zat w B crash count) (hc : 0 ≤ count ∧ count ≤ 9223372036854775807) :
    Calls Try.prog 31 #[.pointer (some ⟨B, 0, none⟩), .string nm, .string tx] w fun e w' => e = .returned (.int .i64 (zerr crash count)) ∧ Zat w' B (zb crash count).1 (zb crash count).2 ∧ Zstep B w w' := by
  have HO := hid (zopen_any w B crash count nm h hc)
  have hne : zerr crash count = 19 ∨ zerr crash count = 5 := by unfold zerr; split <;> simp
  generalize zerr crash count = er at *
  clear h hc
  rcases hne with rfl | rfl
  all_goals
    go_enter Try.func31, Try.ntmps31
    go_wp2_with fail
    refine HO.out.mono ?_
    rintro e w1 ⟨rfl, h1, h2⟩
    have H1 := hid h1
    have H2 := hid h2
    clear h1 h2 HO
    go_wp2_with fail
    all_goals go_ret
    all_goals exact ⟨rfl, H1.out, H2.out⟩
set_option maxHeartbeats 2000000 in
theorem zRead_any (w : World) (B : Nat) (crash : Bool) (count : Int) (nm : ByteArray) (fr n : Int) (h : Zat w B crash count) (hc : 0 ≤ count ∧ count ≤ 9223372036854775807) :
    Calls Try.prog 13 #[.pointer (some ⟨B, 0, none⟩), .string nm, .int .i64 fr, .int .i64 n] w fun e w' => e = .returned (.tuple #[.string ⟨#[]⟩, .int .i64 (zerr crash count)]) ∧ Zat w' B (zb crash count).1 (zb crash count).2 ∧ Zstep B w w' := by
  have HO := hid (zopen_any w B crash count nm h hc)
  have hne : zerr crash count = 19 ∨ zerr crash count = 5 := by unfold zerr; split <;> simp
  generalize zerr crash count = er at *
  clear h hc
  rcases hne with rfl | rfl
  all_goals
    go_enter Try.func13, Try.ntmps13
    go_wp2_with fail
    refine HO.out.mono ?_
    rintro e w1 ⟨rfl, h1, h2⟩
    have H1 := hid h1
    have H2 := hid h2
    clear h1 h2 HO
    go_wp2_with fail
    all_goals go_ret2
    all_goals exact ⟨rfl, H1.out, H2.out⟩
set_option maxHeartbeats 2000000 in
theorem zFail_any (w : World) (B : Nat) (crash : Bool) (count n : Int) (h : Zat w B crash count) : Calls Try.prog 23 #[.pointer (some ⟨B, 0, none⟩), .int .i64 n] w fun e w' => e = .returned (.tuple #[]) ∧ Zat w' B crash (if crash = true then count else max n 0) ∧ Zstep B w w' := by
  have q := h.six
  have z := h.lt
  have H := hid h
  clear h
  rcases Bool.eq_false_or_eq_true crash with rfl | rfl
  · go_enter Try.func23, Try.ntmps23
    go_wp2_with fail
    all_goals go_end0
    all_goals exact ⟨rfl, H.out, Zstep.refl⟩
  · go_enter Try.func23, Try.ntmps23
    go_wp2_with fail
    all_goals go_end0
    all_goals exact ⟨rfl, Row.set H.out 5 (.int .i64 (max n 0)), ⟨(But.refl [B] w).setCell (.inl (by simp)) _⟩⟩
set_option maxHeartbeats 1000000 in
theorem zUsed_any (w : World) (B : Nat) (crash : Bool) (count : Int) (h : Zat w B crash count) : Calls Try.prog 20 #[.pointer (some ⟨B, 0, none⟩)] w fun e w' => e = .returned (.int .i64 0) ∧ w' = w := by
  have q := h.six
  go_enter Try.func20, Try.ntmps20
  go_wp2_with fail
  all_goals go_ret
  all_goals exact ⟨rfl, rfl⟩
set_option maxHeartbeats 1000000 in
theorem zPeak_any (w : World) (B : Nat) (crash : Bool) (count : Int) (h : Zat w B crash count) : Calls Try.prog 21 #[.pointer (some ⟨B, 0, none⟩)] w fun e w' => e = .returned (.int .i64 0) ∧ w' = w := by
  have q := h.six
  go_enter Try.func21, Try.ntmps21
  go_wp2_with fail
  all_goals go_ret
  all_goals exact ⟨rfl, rfl⟩
theorem run_getObj_iter {P : Program} {w : World} {l : Nat} (h : w.heap[l]? = some (.mapIter none 0 #[] 0)) : (getObj l).run P w = .ok (.mapIter none 0 #[] 0) w := by simp [getObj, Sem.run, h]
set_option maxRecDepth 100000 in
set_option maxHeartbeats 4000000 in
theorem znames_any (w : World) (B : Nat) (crash : Bool) (count : Int) (h : Zat w B crash count) :
    Calls Try.prog 44 #[.pointer (some ⟨B, 0, none⟩)] w fun e w' => e = .returned (.slice none 0 0) ∧ Below w.heap.size w w' := by
  have q := h.six
  have hrg : (Instr.range 45 (.map none)).run Try.prog w = .ok (.pointer (some ⟨w.heap.size, 0, none⟩)) (w.alloc (.mapIter none 0 #[] 0)) := by kernel_rfl
  have hnx : ∀ ty, (Instr.next (.pointer (some ⟨w.heap.size, 0, none⟩)) false ty).run Try.prog (w.alloc (.mapIter none 0 #[] 0)) = .ok (.tuple #[.bool false]) (w.alloc (.mapIter none 0 #[] 0)) := by
    intro ty
    have e : (w.alloc (.mapIter none 0 #[] 0)).heap[w.heap.size]? = some (.mapIter none 0 #[] 0) := heap_alloc_new w _
    have e2 := run_getObj_iter (P := Try.prog) e
    unfold Instr.next
    simp only [Sem.run_bind, e2, Result.andThen_ok, Sem.run_pure]
  have HBW : Hid (Below w.heap.size w (w.alloc (.mapIter none 0 #[] 0))) := (Below.refl _ w).alloc (Nat.le_refl _) _
  go_enter Try.func44, Try.ntmps44
  go_wp2_with fail
  have HNX := hid hnx
  have e : (w.alloc (.mapIter none 0 #[] 0)).heap[w.heap.size]? = some (.mapIter none 0 #[] 0) := heap_alloc_new w _
  clear hrg q hnx
  generalize w.alloc (.mapIter none 0 #[] 0) = x at *
  go_loopw [3] (fun v wr => v = .slice none 0 0 ∧ wr = x) (fun _ _ => 0)
  case atStart => exact ⟨rfl, rfl⟩
  case round =>
    obtain ⟨rfl, rfl⟩ := hrel
    have hnx := HNX.out
    go_wp2_with fail
    refine (sort_none none 0 wr).mono ?_
    rintro e w' ⟨rfl, rfl⟩
    go_wp2_with fail
    go_ret
    exact ⟨rfl, HBW.out⟩
set_option maxRecDepth 100000 in
set_option maxHeartbeats 4000000 in
theorem zList_any (w : World) (B : Nat) (crash : Bool) (count : Int) (h : Zat w B crash count) : Calls Try.prog 19 #[.pointer (some ⟨B, 0, none⟩)] w fun e w' => e = .returned (.slice none 0 0) ∧ Below w.heap.size w w' := by
  have HN := hid (znames_any w B crash count h)
  clear h
  go_enter Try.func19, Try.ntmps19
  go_wp2_with fail
  refine HN.out.mono ?_
  rintro e w1 ⟨rfl, hb1⟩
  have HB := hid hb1
  clear hb1
  go_wp2_with fail
  go_loopw [3, 12] (fun v i wr => v = .slice none 0 0 ∧ i = .int .i64 0 ∧ wr = w1) (fun _ _ _ => 0)
  case atStart => exact ⟨rfl, rfl, rfl⟩
  case round =>
    obtain ⟨rfl, rfl, rfl⟩ := hrel
    go_wp2_with fail
    all_goals go_ret
    all_goals exact ⟨rfl, HB.out⟩
set_option maxRecDepth 100000 in
set_option maxHeartbeats 4000000 in
theorem zRestart_any (w : World) (B : Nat) (crash : Bool) (count : Int) (kept : Nat) (h : Zat w B crash count) :
    Calls Try.prog 25 #[.pointer (some ⟨B, 0, none⟩), .int .u64 kept] w fun e w' => e = .returned (.tuple #[]) ∧ Zat w' B false 0 ∧ Zstep B w w' := by
  have q := h.six
  have z := h.lt
  have HST : Hid (Zat ((w.setCell ⟨B, 4, none⟩ (.bool false)).setCell ⟨B, 5, none⟩ (.int .i64 0)) B false 0 ∧ Zstep B w ((w.setCell ⟨B, 4, none⟩ (.bool false)).setCell ⟨B, 5, none⟩ (.int .i64 0))) :=
    ⟨(Row.set h 4 (.bool false)).set 5 (.int .i64 0), ⟨((But.refl [B] w).setCell (p := ⟨B, 4, none⟩) (.inl (by simp)) _).setCell (p := ⟨B, 5, none⟩) (.inl (by simp)) _⟩⟩
  clear h
  go_enter Try.func25, Try.ntmps25
  go_wp2_with fail
  generalize ((w.setCell ⟨B, 4, none⟩ (.bool false)).setCell ⟨B, 5, none⟩ (.int .i64 0)) = y at HST ⊢
  clear q z
  refine (znames_any y B _ _ HST.out.1).mono ?_
  rintro e w1 ⟨rfl, hb1⟩
  have HB := hid hb1
  clear hb1
  go_wp2_with fail
  go_loopw [20] (fun i wr => i = .int .i64 0 ∧ wr = w1) (fun _ _ => 0)
  case atStart => exact ⟨rfl, rfl⟩
  case round =>
    obtain ⟨rfl, rfl⟩ := hrel
    go_wp2_with fail
    go_end0
    exact ⟨rfl, Row.below HST.out.1 HB.out HST.out.1.lt, HST.out.2.trans ⟨But.of_below HB.out⟩⟩
theorem zeql (w : World) : (binOp .eql 45 (.map none) (.map none)).run Try.prog w = .ok (.bool true) w := by kernel_rfl
/-- What Create leaves: a store, or a nil one. -/
def ZcPost (B base : Nat) (a : Ab) (nm : List UInt8) (w : World) (e : Ending) (w' : World) : Prop := e = .returned (.int .i64 (a.create nm).1) ∧ Zstep B w w' ∧ ((∃ crash count, Zat w' B crash count ∧ (a.create nm).2 = zab crash count) ∨ ∃ s : St, s.At w' B base ∧ s.ab = (a.create nm).2 ∧ ∀ k, k ∈ s.own B → k = B ∨ w.heap.size ≤ k)
set_option maxRecDepth 100000 in
set_option maxHeartbeats 4000000 in
theorem zCreate_any (w : World) (B base : Nat) (crash : Bool) (count : Int) (nm : ByteArray) (h : Zat w B crash count) (hc : 0 ≤ count ∧ count ≤ 9223372036854775807) (hn : nm.size ≤ 1000000000) (hbase : base ≤ B) :
    Calls Try.prog 10 #[.pointer (some ⟨B, 0, none⟩), .string nm] w (ZcPost B base (zab crash count) nm.data.toList w) := by
  have HO := hid (zbegin_any w B crash count h hc)
  have hlt := h.lt
  have HP : Hid ((zab crash count).create nm.data.toList = if (zb crash count).1 = true then ((19 : Int), zab (zb crash count).1 (zb crash count).2) else if nameOk nm.data.toList = false then (4, zab (zb crash count).1 (zb crash count).2) else (0, { zab (zb crash count).1 (zb crash count).2 with files := [⟨nm.data.toList, [], 0⟩] })) := by
    show _ = _
    unfold Ab.create
    rw [zb_ab]
    rfl
  have HN := hid (fun x => fileName_any nm x hn)
  have HPP : Hid (∀ (n : Int) (a' : Ab) (w' : World), (zab crash count).create nm.data.toList = (n, a') → Zstep B w w' → ((∃ crash count, Zat w' B crash count ∧ a' = zab crash count) ∨ ∃ s : St, s.At w' B base ∧ s.ab = a' ∧ ∀ k, k ∈ s.own B → k = B ∨ w.heap.size ≤ k) → ZcPost B base (zab crash count) nm.data.toList w (.returned (.int .i64 n)) w') := by
    intro n a' w' h1 h2 h3
    unfold ZcPost
    rw [h1]
    exact ⟨rfl, h2, h3⟩
  generalize ZcPost B base (zab crash count) nm.data.toList w = PP at *
  generalize (zab crash count).create nm.data.toList = res at *
  generalize zb crash count = z at *
  generalize nameOk nm.data.toList = ans at *
  obtain ⟨z1, z2⟩ := z
  simp only at HO HP
  clear h hc
  rcases Bool.eq_false_or_eq_true z1 with rfl | rfl
  · have HE : Hid (res = (19, zab true z2)) := by show _ = _; rw [HP.out]; rfl
    clear HP
    go_enter Try.func10, Try.ntmps10
    go_wp2_with fail
    refine HO.out.mono ?_
    rintro e w1 ⟨rfl, h1, h2⟩
    have H1 := hid h1
    have H2 := hid h2
    clear h1 h2 HO
    go_wp2_with fail
    all_goals (try go_ret)
    all_goals exact HPP.out _ _ _ HE.out H2.out (.inl ⟨_, _, H1.out, rfl⟩)
  · rcases Bool.eq_false_or_eq_true ans with rfl | rfl
    · have HE : Hid (res = (0, { zab false z2 with files := [⟨nm.data.toList, [], 0⟩] })) := by show _ = _; rw [HP.out]; rfl
      clear HP
      go_enter Try.func10, Try.ntmps10
      go_wp2_with fail
      refine HO.out.mono ?_
      rintro e w1 ⟨rfl, h1, h2⟩
      have H1 := hid h1
      have H2 := hid h2
      have q := h1.six
      have hz := h1.lt
      have hlk := zlook w1 nm
      have hlen := fun ty => Maps.len_nil (P := Try.prog) (w := w1) Try.underlying45 ty
      have heq := zeql
      have hmm := @run_makeMap Try.prog
      clear h1 h2 HO
      go_wp2_with fail
      refine (HN.out w1).mono ?_
      rintro e w2 ⟨rfl, rfl⟩
      have hst0 : St.At ((w2.setCell ⟨B, 3, none⟩ (.map (some w2.heap.size))).alloc (.map #[] 0)) B base ⟨0, 0, 0, w2.heap.size, [], false, z2⟩ := by
        refine ⟨(Row.set H1.out 3 _).alloc _, ?_, fun f hf => (by cases hf), List.Pairwise.nil, hbase, by show base ≤ w2.heap.size; omega⟩
        have h1 := World.ownsMap_made (H := Unit) (w2.setCell ⟨B, 3, none⟩ (.map (some w2.heap.size))) Try.prog 9 ptrElem
        have e : (w2.setCell ⟨B, 3, none⟩ (.map (some w2.heap.size))).heap.size = w2.heap.size := by simp [World.setCell]
        rw [e] at h1
        exact h1
      have HS0 := hid hst0
      have HMP := hid (hst0.map.alloc (.cells #[.slice none 0 0, .int .i64 0] 63))
      have hnm : nm.size ≤ maxLen := by unfold maxLen; omega
      clear hst0
      go_wp2_with (at_mapUpdate; refine wpList_mapUpdate_own _ rfl _ _ _ 45 rfl 9 60 strK Try.underlying45 ptrElem w2.heap.size 0 (toD []) rfl HMP.out (by unfold maxLen; omega) _ _ (.string nm.data.toList) rfl rfl (Go.WideMaps.keyOf_string_mk Try.underlying9 hnm) _ [] (ptrElem_mk (w2.heap.size + 1)) ?_)
      intro w3 hown3 hgrow3
      have e8 : ((w2.setCell ⟨B, 3, none⟩ (.map (some w2.heap.size))).alloc (.map #[] 0)).heap.size = w2.heap.size + 1 := by simp
      have hown4 := hown3
      rw [show ((w2.heap.size : Int) + 1) = ((w2.heap.size + 1 : Nat) : Int) by omega] at hown4
      rw [put_toD ⟨nm.data.toList, w2.heap.size + 1, .slice none 0 0, [], 0⟩ [] (fun x hx => by cases hx)] at hown4
      have hst := HS0.out.insert (f := ⟨nm.data.toList, w2.heap.size + 1, .slice none 0 0, [], 0⟩) rfl ⟨e8.symm, rfl, rfl, rfl⟩ hown4 hgrow3 (by rw [e8]; omega)
      have HST := hid hst
      clear hst hown3 hown4 hgrow3 q hlk hlen heq HMP hmm e8
      go_wp2_with fail
      all_goals (try go_ret)
      refine HPP.out _ _ _ HE.out (H2.out.trans ⟨?_⟩) (.inr ⟨_, HST.out.at', rfl, fun k hk => ?_⟩)
      · have h1 : But [B] w2 ((w2.setCell ⟨B, 3, none⟩ (.map (some w2.heap.size))).alloc (.map #[] 0)) := ((But.refl [B] w2).setCell (p := ⟨B, 3, none⟩) (.inl (by simp)) _).alloc _
        refine h1.later HST.out.but fun i hi => ?_
        unfold St.own at hi
        simp only [List.flatMap_nil, List.mem_cons, List.not_mem_nil, or_false] at hi
        rcases hi with rfl | rfl
        · exact .inl (by simp)
        · exact .inr (Nat.le_refl _)
      · have h2 := HST.out.own k hk
        have h3 := H2.out.but.size
        rcases h2 with h2 | h2
        · unfold St.own at h2
          simp only [List.flatMap_nil, List.mem_cons, List.not_mem_nil, or_false] at h2
          rcases h2 with h2 | h2
          · exact .inl h2
          · exact .inr (by omega)
        · simp at h2
          exact .inr (by omega)
    · have HE : Hid (res = (4, zab false z2)) := by show _ = _; rw [HP.out]; rfl
      clear HP
      go_enter Try.func10, Try.ntmps10
      go_wp2_with fail
      refine HO.out.mono ?_
      rintro e w1 ⟨rfl, h1, h2⟩
      have H1 := hid h1
      have H2 := hid h2
      clear h1 h2 HO
      go_wp2_with fail
      refine (HN.out w1).mono ?_
      rintro e w2 ⟨rfl, rfl⟩
      go_wp2_with fail
      all_goals (try go_ret)
      all_goals exact HPP.out _ _ _ HE.out H2.out (.inl ⟨_, _, H1.out, rfl⟩)
end Go.Proofs.Ytnncbbfbnccnbaa
