/- The program's number: walked as the kit walks, for it asks whether an error is none. -/
import Derived.Test.YtjibkkhgejcjeaaGreatDoorAa
import Derived.Test.YtjibkkhgejcjeaaGreatDoorAb
import Derived.Test.YtjibkkhgejcjeaaGreatDoorChecked
import Derived.Lib.SmallJoins
import Derived.Lib.AppendIntMem
import Derived.Lib.AtoiAllCases
import Derived.Lib.Walk
import Derived.WalkKit
import Derived.BigCall
import Derived.BigGuard
set_option linter.unusedSimpArgs false
set_option linter.unusedVariables false
namespace Go.Proofs.YtjibkkhgejcjeaaGreatDoor.Lg
open Go Go.Lib Go.RowKit
/-- What a world must hold for numbers to be read and written. -/
structure NumTabs (W : World) : Prop where
  pow : Lib.TabIs Tryz.prog W "internal/strconv.uint64pow10" .u64 Lib.pow10Tab
  syn : ∃ t p, W.cell? ⟨6, 0, none⟩ = some (.iface t p)
  rng : ∃ t p, W.cell? ⟨7, 0, none⟩ = some (.iface t p)
theorem tab_below {P : Program} {w w' : World} {name : String} {k : IntKind} {zs : List Int} (h : Lib.TabIs P w name k zs) (hb : Below w.heap.size w w') : Lib.TabIs P w' name k zs := by
  unfold Lib.TabIs World.var? at *
  cases hg : P.globalNamed name with
  | none => rw [hg] at h; cases h
  | some g =>
    rw [hg] at h
    simp only [Option.bind_some] at h ⊢
    have hlt : g < w.heap.size := by
      rcases Nat.lt_or_ge g w.heap.size with h1 | h1
      · exact h1
      · rw [Array.getElem?_eq_none h1] at h; cases h
    rw [hb.block g hlt]; exact h
theorem itoa_calls (n : Int) (h0 : -9223372036854775808 ≤ n) (h1 : n ≤ 9223372036854775807) (w : World) (ht : Lib.TabIs Tryz.prog w "internal/strconv.uint64pow10" .u64 Lib.pow10Tab) :
    Calls Tryz.prog 97 #[.int .i64 n] w fun e w' => e = .returned (.string ⟨(Lib.itoa n).toArray⟩) ∧ Below w.heap.size w w' :=
  (Any.strconv_Itoa Tryz.lItoa n h0 h1 w ht).mono fun e w' ⟨he, k, os, hw⟩ => ⟨he, by rw [hw]; exact Lib.below_grow _ _ (Nat.le_refl _) _ _⟩
theorem trim_calls (s p : ByteArray) (w : World) : Calls Tryz.prog 157 #[.string s, .string p] w fun e w' => e = .returned (.string ⟨(Lib.trimPrefix s.data.toList p.data.toList).toArray⟩) ∧ w' = w := Any.strings_TrimPrefix Tryz.lTrimPrefix s p w
theorem atoi_calls (s : ByteArray) (hl : s.size ≤ 281474976710656) (w : World) (ht : NumTabs w) :
    Calls Tryz.prog 156 #[.string s] w fun e w' => Below w.heap.size w w' ∧ ((∃ v, Lib.atoiAll s.data.toList = .ok v ∧ e = .returned (.tuple #[.int .i64 v, .nilIface])) ∨ ((∀ v, Lib.atoiAll s.data.toList ≠ .ok v) ∧ ∃ n t N, e = .returned (.tuple #[.int .i64 n, .iface t (.pointer (some ⟨N, 0, none⟩))]))) := by
  obtain ⟨t1, p1, h1⟩ := ht.syn
  obtain ⟨t2, p2, h2⟩ := ht.rng
  rcases hA : Lib.atoiAll s.data.toList with v | _ | _
  · refine (Any.strconv_Atoi_ok Tryz.lAtoi s (by omega) v hA w).mono ?_
    rintro e w' ⟨he, hw⟩
    refine ⟨?_, .inl ⟨v, rfl, he⟩⟩
    rcases hw with rfl | ⟨t, rfl⟩
    · exact Below.refl _ _
    · exact Go.Joins.below_bytesWorld _ _ _ _ (Nat.le_refl _)
  · refine (Any.strconv_Atoi_syntax Tryz.lAtoi s hl hA _ w h1 (.inr ⟨_, _, rfl⟩)).mono ?_
    rintro e w' ⟨N, he, _, _, hb⟩
    exact ⟨hb, .inr ⟨fun v h => by (cases h), _, _, _, he⟩⟩
  · refine (Any.strconv_Atoi_range Tryz.lAtoi s hl hA _ w h2 (.inr ⟨_, _, rfl⟩)).mono ?_
    rintro e w' ⟨N, he, _, _, hb⟩
    exact ⟨hb, .inr ⟨fun v h => by (cases h), _, _, _, he⟩⟩
set_option maxHeartbeats 4000000 in
set_option maxRecDepth 100000 in
theorem number_calls (s : ByteArray) (hl : s.size ≤ 281474976710656) (W : World) (ht : NumTabs W) :
    Calls Tryz.prog 137 #[.string s] W fun e w' => Below W.heap.size W w' ∧ ∃ n, e = .returned (.tuple #[.int .i64 n, .bool (numP s.data.toList).isSome]) ∧ ∀ m, numP s.data.toList = some m → n = m := by
  have hA := atoi_calls s hl W ht
  go_enter Tryz.func137, Tryz.ntmps137
  go_wp2_with (go_at_fn 156)
  refine Calls.mono hA ?_
  rintro e W1 ⟨hb1, ⟨v, hv, rfl⟩ | ⟨hno, n, t, N, rfl⟩⟩
  · go_wp2_with (go_at_fn 157)
    refine Calls.mono (trim_calls s ⟨#[45]⟩ W1) ?_
    rintro e W2 ⟨rfl, rfl⟩
    generalize hT : (⟨(Lib.trimPrefix s.data.toList (⟨#[45]⟩ : ByteArray).data.toList).toArray⟩ : ByteArray) = T
    have hTs : T.size = (Lib.trimPrefix s.data.toList [45]).length := by rw [← hT]; simp [ByteArray.size]
    by_cases c : T.size ≤ 18
    · obtain ⟨vb0, vb1⟩ := Lib.atoiAll_bounds hv
      go_wp2_with (go_at_fn 97)
      refine Calls.mono (itoa_calls v vb0 vb1 W2 (tab_below ht.pow hb1)) ?_
      rintro e W3 ⟨rfl, hb3⟩
      generalize hI : (⟨(Lib.itoa v).toArray⟩ : ByteArray) = I
      have hIs : (I.toList == s.toList) = (numP s.data.toList).isSome ∧ ∀ m, numP s.data.toList = some m → v = m := by
        have e1 : I.toList = Lib.itoa v := by rw [← hI]; exact ByteArray.toList_mk _
        rw [e1, ByteArray.toList_eq s]
        have hTl : (Lib.trimPrefix s.data.toList [45]).length ≤ 18 := by
          omega
        cases hP : numP s.data.toList with
        | some m =>
          obtain ⟨p1, p2, p3⟩ := numP_numQ hP
          rw [hv] at p1
          cases p1
          refine ⟨?_, fun m hm => by cases hm; rfl⟩
          rw [p3]; simp
        | none =>
          refine ⟨?_, fun m hm => by cases hm⟩
          rw [Option.isSome_none, beq_eq_false_iff_ne]
          intro h
          rw [numQ_numP hTl h] at hP; cases hP
      obtain ⟨hI1, hI2⟩ := hIs
      go_wp2
      go_ret2
      exact ⟨Below.trans hb1 (hb3.mono hb1.size), v, by rw [← hI1]; rfl, hI2⟩
    · have hN : numP s.data.toList = none := by
        cases hP : numP s.data.toList with
        | none => rfl
        | some m =>
          obtain ⟨p1, p2, p3⟩ := numP_numQ hP
          exfalso
          omega
      go_wp2_with (go_at_fn 97)
      go_ret2
      first | exact ⟨hb1, v, rfl⟩ | exact ⟨hb1, v, by rw [hN]; rfl, fun m hm => by rw [hN] at hm; cases hm⟩
  · have hN : numP s.data.toList = none := by
      cases hP : numP s.data.toList with
      | none => rfl
      | some m => exact absurd (numP_numQ hP).1 (hno m)
    go_wp2_with (go_at_fn 157)
    go_ret2
    exact ⟨hb1, n, by rw [hN]; rfl, fun m hm => by rw [hN] at hm; cases hm⟩
end Go.Proofs.YtjibkkhgejcjeaaGreatDoor.Lg
