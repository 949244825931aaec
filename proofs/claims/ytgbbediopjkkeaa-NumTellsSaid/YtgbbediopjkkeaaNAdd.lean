/- Layer 1: what Add and Sub answer: the walks through their text and that of their closures. No condition but that the numbers are of 64 bits. -/
import Derived.Test.YtgbbediopjkkeaaChecked
import Derived.Test.YtgbbediopjkkeaaNPlain
import Derived.WalkKit
import Derived.WalkLawsBesides
import Derived.BigQuiet
import Derived.Lib.Hide
import Derived.Shelf.Abstract
import Derived.RangeFuncBox
namespace Go.Proofs.Ytgbbediopjkkeaa
open Go.RowKit Go.BigFrame Go.Shelf
set_option maxRecDepth 20000

/-- Add's closure: whether the sum n of a and b is right. -/
theorem add1_any (n a b : Int) (pn pa pb : Addr) (r : Bool) (w : World) (hn : w.cell? pn = some (.int .i64 n)) (ha : w.cell? pa = some (.int .i64 a)) (hb : w.cell? pb = some (.int .i64 b))
    (hr : ((decide (a < n) == decide (0 < b)) || (b == 0)) = r) :
    Calls Try.prog 26 #[.pointer (some pn), .pointer (some pa), .pointer (some pb)] w fun e w' => e = .returned (.bool r) ∧ w = w' := by
  have HR := Lib.hid hr
  clear hr
  go_enter Try.func26, Try.ntmps26
  go_wp2
  · go_ret
    rename_i hi
    exact ⟨congrArg (fun r => Ending.returned (.bool r)) (show true = r by rw [← HR.out]; simp [hi]), rfl⟩
  · go_ret
    exact ⟨congrArg (fun r => Ending.returned (.bool r)) HR.out, rfl⟩
theorem sub1_any (n a b : Int) (pn pa pb : Addr) (r : Bool) (w : World) (hn : w.cell? pn = some (.int .i64 n)) (ha : w.cell? pa = some (.int .i64 a)) (hb : w.cell? pb = some (.int .i64 b))
    (hr : ((decide (n < a) == decide (0 < b)) || (b == 0)) = r) :
    Calls Try.prog 29 #[.pointer (some pn), .pointer (some pa), .pointer (some pb)] w fun e w' => e = .returned (.bool r) ∧ w = w' := by
  have HR := Lib.hid hr
  clear hr
  go_enter Try.func29, Try.ntmps29
  go_wp2
  · go_ret
    rename_i hi
    exact ⟨congrArg (fun r => Ending.returned (.bool r)) (show true = r by rw [← HR.out]; simp [hi]), rfl⟩
  · go_ret
    exact ⟨congrArg (fun r => Ending.returned (.bool r)) HR.out, rfl⟩

/-- told, by its closure's answer. -/
theorem told_yes (n : Int) (f : Nat) (cap : Array Value) (w : World) (hf : ∀ args w, (callFunc f args).run Try.prog w = .ok (.enter f args) w) (h : Calls Try.prog f cap w fun e w' => e = .returned (.bool true) ∧ w = w') :
    Calls Try.prog 25 #[.int .i64 n, .func (.func f) #[] cap] w fun e w' => e = .returned (.tuple #[.int .i64 n, .bool true]) ∧ w = w' := by
  have H := Lib.hid h
  clear h
  go_enter Try.func25, Try.ntmps25
  go_wp2_with fail
  refine H.out.mono ?_
  rintro e w1 ⟨rfl, rfl⟩
  go_wp2
  go_ret2
  exact ⟨rfl, rfl⟩
theorem told_no (n : Int) (f : Nat) (cap : Array Value) (w : World) (hf : ∀ args w, (callFunc f args).run Try.prog w = .ok (.enter f args) w) (h : Calls Try.prog f cap w fun e w' => e = .returned (.bool false) ∧ w = w') :
    Calls Try.prog 25 #[.int .i64 n, .func (.func f) #[] cap] w fun e w' => e = .returned (.tuple #[.int .i64 0, .bool false]) ∧ w = w' := by
  have H := Lib.hid h
  clear h
  go_enter Try.func25, Try.ntmps25
  go_wp2_with fail
  refine H.out.mono ?_
  rintro e w1 ⟨rfl, rfl⟩
  go_wp2
  go_ret2
  exact ⟨rfl, rfl⟩

theorem boxes3 (w : World) (v0 v1 v2 : Value) (t0 t1 t2 : TypeId) :
    (((w.alloc (.cells #[v0] t0)).alloc (.cells #[v1] t1)).alloc (.cells #[v2] t2)).cell? ⟨w.heap.size, 0, none⟩ = some v0 ∧
    (((w.alloc (.cells #[v0] t0)).alloc (.cells #[v1] t1)).alloc (.cells #[v2] t2)).cell? ⟨w.heap.size + 1, 0, none⟩ = some v1 ∧
    (((w.alloc (.cells #[v0] t0)).alloc (.cells #[v1] t1)).alloc (.cells #[v2] t2)).cell? ⟨w.heap.size + 1 + 1, 0, none⟩ = some v2 := by
  have b0 := ((Boxed.new w t0 v0).alloc (.cells #[v1] t1)).alloc (.cells #[v2] t2)
  have b1 := (Boxed.new (w.alloc (.cells #[v0] t0)) t1 v1).alloc (.cells #[v2] t2)
  have b2 := Boxed.new ((w.alloc (.cells #[v0] t0)).alloc (.cells #[v1] t1)) t2 v2
  rw [World.size_alloc] at b1
  rw [World.size_alloc, World.size_alloc] at b2
  exact ⟨b0.cell, b1.cell, b2.cell⟩
theorem enters_add1 : ∀ args w, (callFunc 26 args).run Try.prog w = .ok (.enter 26 args) w := enters_of Try.func26 (by kernel_rfl) rfl
theorem enters_sub1 : ∀ args w, (callFunc 29 args).run Try.prog w = .ok (.enter 29 args) w := enters_of Try.func29 (by kernel_rfl) rfl


theorem add_any (a b : Int) (w : World) (ha : -9223372036854775808 ≤ a) (ha' : a ≤ 9223372036854775807) (hb : -9223372036854775808 ≤ b) (hb' : b ≤ 9223372036854775807) :
    Calls Try.prog 14 #[.int .i64 a, .int .i64 b] w fun e w' => e = .returned (.tuple #[.int .i64 (cut (a + b)), .bool (fitsB (a + b))]) ∧ Below w.heap.size w w' := by
  by_cases hf : -9223372036854775808 ≤ a + b ∧ a + b ≤ 9223372036854775807
  · obtain ⟨h, h'⟩ := hf
    obtain ⟨e1, e2⟩ := fits_yes h h'
    rw [e1, e2]
    clear e1 e2
    go_enter Try.func14, Try.ntmps14
    go_wp2_with fail
    refine (told_yes _ 26 _ _ enters_add1 (add1_any (a + b) a b _ _ _ true _ ?_ ?_ ?_ ?_)).mono ?_
    · exact (boxes3 w _ _ _ _ _ _).2.2
    · exact (boxes3 w _ _ _ _ _ _).1
    · exact (boxes3 w _ _ _ _ _ _).2.1
    · by_cases hz : b = 0
      · simp [hz]
      · by_cases hp : 0 < b <;> simp [hz, hp] <;> omega
    · rintro e w1 ⟨rfl, rfl⟩
      go_wp2
      go_ret2
      exact ⟨rfl, ((((Below.refl _ w).alloc (Nat.le_refl _) _).alloc (by simp) _).alloc (by simp; omega) _)⟩
  · have hf' : a + b < -9223372036854775808 ∨ 9223372036854775807 < a + b := by omega
    obtain ⟨e1, e2⟩ := fits_not hf'
    rw [e1, e2]
    clear e1 e2 hf
    obtain ⟨v, hv⟩ : ∃ v, wrap64 (a + b) = v := ⟨_, rfl⟩
    have hr : ((decide (a < v) == decide (0 < b)) || (b == 0)) = false := by
      unfold wrap64 at hv
      have hb0 : (b == 0) = false := by simp; omega
      rw [hb0, Bool.or_false, beq_eq_false_iff_ne, ne_eq, decide_eq_decide]
      omega
    have HV := Lib.hid hv
    clear hv hf'
    go_enter Try.func14, Try.ntmps14
    go_wp2_with fail
    rw [HV.out]
    refine (told_no _ 26 _ _ enters_add1 (add1_any v a b _ _ _ false _ ?_ ?_ ?_ hr)).mono ?_
    · exact (boxes3 w _ _ _ _ _ _).2.2
    · exact (boxes3 w _ _ _ _ _ _).1
    · exact (boxes3 w _ _ _ _ _ _).2.1
    · rintro e w1 ⟨rfl, rfl⟩
      go_wp2
      go_ret2
      exact ⟨rfl, ((((Below.refl _ w).alloc (Nat.le_refl _) _).alloc (by simp) _).alloc (by simp; omega) _)⟩

theorem sub_any (a b : Int) (w : World) (ha : -9223372036854775808 ≤ a) (ha' : a ≤ 9223372036854775807) (hb : -9223372036854775808 ≤ b) (hb' : b ≤ 9223372036854775807) :
    Calls Try.prog 17 #[.int .i64 a, .int .i64 b] w fun e w' => e = .returned (.tuple #[.int .i64 (cut (a - b)), .bool (fitsB (a - b))]) ∧ Below w.heap.size w w' := by
  by_cases hf : -9223372036854775808 ≤ a - b ∧ a - b ≤ 9223372036854775807
  · obtain ⟨h, h'⟩ := hf
    obtain ⟨e1, e2⟩ := fits_yes h h'
    rw [e1, e2]
    clear e1 e2
    go_enter Try.func17, Try.ntmps17
    go_wp2_with fail
    refine (told_yes _ 29 _ _ enters_sub1 (sub1_any (a - b) a b _ _ _ true _ ?_ ?_ ?_ ?_)).mono ?_
    · exact (boxes3 w _ _ _ _ _ _).2.2
    · exact (boxes3 w _ _ _ _ _ _).1
    · exact (boxes3 w _ _ _ _ _ _).2.1
    · by_cases hz : b = 0
      · simp [hz]
      · by_cases hp : 0 < b <;> simp [hz, hp] <;> omega
    · rintro e w1 ⟨rfl, rfl⟩
      go_wp2
      go_ret2
      exact ⟨rfl, ((((Below.refl _ w).alloc (Nat.le_refl _) _).alloc (by simp) _).alloc (by simp; omega) _)⟩
  · have hf' : a - b < -9223372036854775808 ∨ 9223372036854775807 < a - b := by omega
    obtain ⟨e1, e2⟩ := fits_not hf'
    rw [e1, e2]
    clear e1 e2 hf
    obtain ⟨v, hv⟩ : ∃ v, wrap64 (a - b) = v := ⟨_, rfl⟩
    have hr : ((decide (v < a) == decide (0 < b)) || (b == 0)) = false := by
      unfold wrap64 at hv
      have hb0 : (b == 0) = false := by simp; omega
      rw [hb0, Bool.or_false, beq_eq_false_iff_ne, ne_eq, decide_eq_decide]
      omega
    have HV := Lib.hid hv
    clear hv hf'
    go_enter Try.func17, Try.ntmps17
    go_wp2_with fail
    rw [HV.out]
    refine (told_no _ 29 _ _ enters_sub1 (sub1_any v a b _ _ _ false _ ?_ ?_ ?_ hr)).mono ?_
    · exact (boxes3 w _ _ _ _ _ _).2.2
    · exact (boxes3 w _ _ _ _ _ _).1
    · exact (boxes3 w _ _ _ _ _ _).2.1
    · rintro e w1 ⟨rfl, rfl⟩
      go_wp2
      go_ret2
      exact ⟨rfl, ((((Below.refl _ w).alloc (Nat.le_refl _) _).alloc (by simp) _).alloc (by simp; omega) _)⟩
end Go.Proofs.Ytgbbediopjkkeaa
