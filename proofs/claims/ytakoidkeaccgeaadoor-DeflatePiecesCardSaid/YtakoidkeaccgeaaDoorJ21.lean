/- The law's speaks. -/
import Derived.Test.YtakoidkeaccgeaaDoorJ20
namespace Go.Proofs.YtakoidkeaccgeaaDoor
open Go.RowKit Go.Shelf Go.Sort
set_option maxHeartbeats 1600000 in
set_option maxRecDepth 100000 in
theorem speaks_calls (w : World) (ho : OrdM w) (hd : DepM w) :
    Calls Tryd.prog 11 #[] w fun e w' => e = .returned (.bool true) ∧ Chg (fun _ => False) w w' := by
  have HA := Lib.hid (all_calls 9 ByteArray.empty w ho hd (by omega) (by decide) (by rw [all_empty]; decide))
  have HO := Lib.hid ho
  have HD := Lib.hid hd
  clear ho hd
  have e20 := all_20
  generalize h20 : allN 6 S20 = out at *
  have H20 := Lib.hid h20
  have hb : bstr [3, 0] = ⟨#[3, 0]⟩ := rfl
  have HB := Lib.hid hb
  clear h20 hb
  go_enter Tryd.func11, Tryd.ntmps11
  go_wp2_with fail
  refine HA.out.mono ?_
  rintro e w1 ⟨rfl, hC1⟩
  rw [all_empty, HB.out]
  have HB2 := Lib.hid (all_calls 6 S20 w1 (HO.out.chg hC1 (fun h => h)) (HD.out.chg hC1 (fun h => h)) (by omega) (by decide) (by rw [H20.out]; omega))
  have HC1 := Lib.hid hC1
  clear hC1 HA
  go_wp2_with fail
  refine HB2.out.mono ?_
  rintro e w2 ⟨rfl, hC2⟩
  have HC2 := Lib.hid (HC1.out.trans hC2 (fun _ h => h.elim))
  clear hC2 HB2 HC1
  rw [H20.out]
  have hsz : (bstr out).size = out.length := bstr_size out
  have hlt : ((bstr out).size : Int) < 10 := by rw [hsz]; omega
  have hlt2 : decide (((bstr out).size : Int) < 10) = true := by simpa using hlt
  have HM : Hid (Calls Tryd.prog 16 #[.int .i64 0] w2 fun e w' => e = .returned (.int .i64 6) ∧ w2 = w') := most_calls 0 w2 (by omega)
  go_wp2_with fail
  refine HM.out.mono ?_
  rintro e w3 ⟨rfl, rfl⟩
  go_wp2
  go_ret
  exact ⟨rfl, HC2.out⟩
theorem i64_wraps (n : Int) (h₀ : 0 ≤ n) (h₁ : n < 2 ^ 63) : IntKind.i64.wrap n = n := IntWalk.i64_in _ (by omega)
theorem and_mask (n : Int) (h : 0 ≤ n) (h2 : n ≤ 9223372036854775807) : ∃ m : Nat, m < 16777216 ∧ bits .and .i64 n 16777215 = (m : Int) := by
  have := bits_mask .i64 63 (by decide) i64_wraps 24 (by decide) n h (by omega)
  refine ⟨(n % 16777216).toNat, by omega, ?_⟩
  rw [show (16777215 : Int) = 2 ^ 24 - 1 by decide, this]
  omega
set_option maxHeartbeats 1600000 in
set_option maxRecDepth 100000 in
theorem mostLaw_calls (n : Int) (w : World) (ho : OrdM w) (hd : DepM w) (hn : -9223372036854775808 ≤ n) (hn2 : n ≤ 9223372036854775807) :
    Calls Tryd.prog 5 #[.int .i64 n] w fun e w' => e = .returned (.bool true) ∧ Chg (fun _ => False) w w' := by
  have HS := Lib.hid (speaks_calls w ho hd)
  clear ho hd
  have HN := Lib.hid writeNil_calls
  have HN2 := Lib.hid closeNil_calls
  by_cases h : n < 0
  · have HM := Lib.hid (fun W => mostNeg_calls n W h)
    go_enter Tryd.func5, Tryd.ntmps5
    go_wp2_with fail
    refine HS.out.mono ?_
    rintro e w1 ⟨rfl, hC1⟩
    have HC1 := Lib.hid hC1
    clear hC1 HS
    go_wp2_with fail
    refine (HN.out _ _).mono ?_
    rintro e w2 ⟨rfl, rfl⟩
    go_wp2_with fail
    refine (HN2.out _).mono ?_
    rintro e w2 ⟨rfl, rfl⟩
    have g : decide (n < 0) = true := by simpa using h
    go_wp2_with fail
    refine (HM.out _).mono ?_
    rintro e w2 ⟨rfl, rfl⟩
    go_wp2
    go_ret
    exact ⟨rfl, HC1.out⟩
  · obtain ⟨m, hm, hb⟩ := and_mask n (by omega) hn2
    have HM := Lib.hid (fun W => most_calls m W (by omega))
    have HP := Lib.hid (fun W => parts_calls m W (by omega))
    have hpm := parts_most m
    have hpb : partsN m ≤ m + 1 := by
      have := partsF_eq m m 1 (Nat.le_refl _)
      unfold partsN
      omega
    have g : decide (n < 0) = false := by simpa using h
    go_enter Tryd.func5, Tryd.ntmps5
    go_wp2_with fail
    refine HS.out.mono ?_
    rintro e w1 ⟨rfl, hC1⟩
    have HC1 := Lib.hid hC1
    clear hC1 HS
    go_wp2_with fail
    refine (HN.out _ _).mono ?_
    rintro e w2 ⟨rfl, rfl⟩
    go_wp2_with fail
    refine (HN2.out _).mono ?_
    rintro e w2 ⟨rfl, rfl⟩
    go_wp2_with fail
    refine (HM.out _).mono ?_
    rintro e w2 ⟨rfl, rfl⟩
    go_wp2_with fail
    refine (HP.out _).mono ?_
    rintro e w2 ⟨rfl, rfl⟩
    have heq : ((mostN m : Int) == (m : Int) + 6 * (partsN m : Int)) = true := by
      rw [beq_iff_eq]; omega
    go_wp2
    go_ret
    exact ⟨rfl, HC1.out⟩
end Go.Proofs.YtakoidkeaccgeaaDoor
