/- The law DeflatePieces: its walk. -/
import Derived.Test.YtakoidkeaccgeaaDoorJ21
namespace Go.Proofs.YtakoidkeaccgeaaDoor
open Go.RowKit Go.Shelf Go.Sort

/-- Ints in memory, or none. -/
structure IntsM (w : World) (oa : Option Addr) (len : Nat) (zs : List Int) : Prop where
  sz : zs.length = len
  lt : len ≤ maxLen
  cells : ∀ i, i < len → ∃ a : Addr, oa = some a ∧ a.block < w.heap.size ∧ w.cell? (a.add i) = some (.int .i64 (zs.getD i 0))
  wf : ∀ i, -9223372036854775808 ≤ zs.getD i 0 ∧ zs.getD i 0 ≤ 9223372036854775807
/-- A place in what is left, out of any int. -/
def cutI (z : Int) (n : Nat) : Int := (z.tmod ((n : Int) + 1) + (n : Int) + 1).tmod ((n : Int) + 1)
theorem cutI_spec (z : Int) (n : Nat) : ∃ k : Nat, k ≤ n ∧ cutI z n = (k : Int) ∧ -(n : Int) ≤ z.tmod ((n : Int) + 1) ∧ z.tmod ((n : Int) + 1) ≤ n := by
  have h1 : (z.tmod ((n : Int) + 1)).natAbs < ((n : Int) + 1).natAbs := by
    rw [Int.natAbs_tmod]
    exact Nat.mod_lt _ (by omega)
  have h2 : 0 ≤ z.tmod ((n : Int) + 1) + (n : Int) + 1 := by omega
  have h3 := Int.tmod_nonneg ((n : Int) + 1) h2
  have h4 := Int.tmod_lt_of_pos (z.tmod ((n : Int) + 1) + (n : Int) + 1) (show (0 : Int) < (n : Int) + 1 by omega)
  exact ⟨(cutI z n).toNat, by unfold cutI; omega, by unfold cutI; omega, by omega, by omega⟩
theorem and15 (x : Int) : ∃ m : Nat, m ≤ 15 ∧ bits .and .i64 x 15 = (m : Int) := by
  have h : (BitVec.ofInt IntKind.i64.bits x &&& BitVec.ofInt IntKind.i64.bits 15).toNat ≤ 15 := by
    rw [BitVec.toNat_and]
    exact Nat.le_trans Nat.and_le_right (by decide)
  have e : bits .and .i64 x 15 = IntKind.i64.wrap ((BitVec.ofInt IntKind.i64.bits x &&& BitVec.ofInt IntKind.i64.bits 15).toNat : Int) := rfl
  generalize (BitVec.ofInt IntKind.i64.bits x &&& BitVec.ofInt IntKind.i64.bits 15).toNat = A at h e
  exact ⟨A, h, by rw [e]; exact IntWalk.i64_in _ (by omega)⟩
theorem rm8_nil : rm8 [] = [] := by simp [rm8]
theorem EncM.mono {w : World} {S : Nat → Prop} {xb level : Nat} {a r : ByteArray} {c : Bool} {bs : List Bool} (h : EncM w S xb level a r c bs) (T : Nat → Prop) (hT : ∀ k, S k → T k) : EncM w T xb level a r c bs := WB.mono h hT
def stR (r : ByteArray) : ES := (ByteArray.empty, r, [])
theorem es1_stR (s : ByteArray) : es1 s = stR s := by
  have e : ByteArray.empty ++ s = s := by simp
  show (ByteArray.empty, ByteArray.empty ++ s, rm8 []) = (ByteArray.empty, s, [])
  rw [e, rm8_nil]
theorem stR_step (r p : ByteArray) : drS (esA (stR r), esR (stR r) ++ p, esB (stR r)) = stR (r ++ p) := by
  show (ByteArray.empty, r ++ p, rm8 []) = (ByteArray.empty, r ++ p, [])
  rw [rm8_nil]
theorem allN_stR (level : Nat) (s : ByteArray) : allN level s = by8 (closeS level (stR s)) := by unfold allN; rw [es1_stR]
set_option maxHeartbeats 3200000 in
set_option maxRecDepth 100000 in
theorem piecesLaw_calls (s : ByteArray) (oa : Option Addr) (len cap : Nat) (zs : List Int) (level : Int) (w : World) (HI : IntsM w oa len zs) (ho : OrdM w) (hd : DepM w) (hs : s.size ≤ 9223372036854775807) :
    Calls Tryd.prog 4 #[.string s, .slice oa len cap, .int .i64 level] w fun e w' => e = .returned (.bool true) ∧ Chg (fun _ => False) w w' := by
  have HS := Lib.hid (speaks_calls w ho hd)
  have HO := Lib.hid ho
  have HD := Lib.hid hd
  have HII := Lib.hid HI
  obtain ⟨m, hm, hb⟩ := and15 level
  have hmin : min (s.size : Int) 1500 = ((min s.size 1500 : Nat) : Int) := by omega
  have hmn : min s.size 1500 ≤ s.size := by omega
  have hm5 : min s.size 1500 ≤ 1500 := by omega
  obtain ⟨lv, hl9, hlv⟩ : ∃ lv : Nat, lv ≤ 9 ∧ (m : Int) % 10 = (lv : Int) := ⟨m % 10, by omega, by omega⟩
  have hs1 : (s.extract 0 (min s.size 1500)).size ≤ 1500 := by rw [ByteArray.size_extract]; omega
  have hlen := HI.sz
  have hlt := HI.lt
  clear ho hd HI
  go_enter Tryd.func4, Tryd.ntmps4
  go_wp2_with fail
  refine HS.out.mono ?_
  rintro e w1 ⟨rfl, hC1⟩
  have HC1 := Lib.hid hC1
  clear hC1 HS
  go_wp2_with fail
  clear hb hmin hmn hm5
  generalize s.extract 0 (min s.size 1500) = s1 at *
  have HA := Lib.hid (all_calls lv s1 w1 (HO.out.chg HC1.out (fun h => h)) (HD.out.chg HC1.out (fun h => h)) hl9 (by omega) (by have := allN_le lv s1 (by omega); omega))
  have HAL := Lib.hid (allN_stR lv s1)
  have HOL := Lib.hid (allN_le lv s1 (by omega))
  generalize allN lv s1 = out at *
  go_wp2_with fail
  refine HA.out.mono ?_
  rintro e w2 ⟨rfl, hC2⟩
  have HC2 := Lib.hid (HC1.out.trans hC2 (fun _ h => h.elim))
  clear hC2 HA HC1
  have HN := Lib.hid (newEnc_calls lv w2 hl9)
  have hxb := HC2.out.size
  go_wp2_with fail
  refine HN.out.mono ?_
  rintro e w3 ⟨rfl, hE3, hC3⟩
  have HE3 := Lib.hid (EncM.mono hE3 (fun k => w.heap.size ≤ k) (fun k h => h.elim))
  have HC3 := Lib.hid (HC2.out.trans hC3 (fun _ h => h.elim))
  clear hE3 hC3 HN HC2
  generalize w2.heap.size = xb at *
  have hor := HO.out.lt
  have hde := HD.out.lt
  go_wp2
  go_loopw [11, 12, 13] (fun a b i W => ∃ (k : Nat) (r q : ByteArray), a = .string ByteArray.empty ∧ b = .string q ∧ i = .int .i64 (k : Int) ∧ k ≤ len ∧ k ≤ 20 ∧ r.size + q.size = s1.size ∧ Hid (r ++ q = s1) ∧ Hid (EncM W (fun k => w.heap.size ≤ k) xb lv (esA (stR r)) (esR (stR r)) false (esB (stR r))) ∧ Hid (Chg (fun _ => False) w W)) (fun _ _ i _ => 20 - (intOf i).toNat)
  case atStart => exact ⟨0, ByteArray.empty, s1, rfl, rfl, rfl, Nat.zero_le _, by omega, by simp, by show _ = _; simp, HE3, HC3⟩
  case round =>
    obtain ⟨k, r, q, rfl, rfl, rfl, hk, hk20, hrq, HRQ, HE, HC⟩ := hrel
    have hqs : q.size ≤ 1500 := by omega
    by_cases hg : k < len ∧ k < 20
    · obtain ⟨hg1, hg2⟩ := hg
      obtain ⟨a, rfl, hab, hc0⟩ := HII.out.cells k hg1
      have hc := HC.out.cell hc0 (fun h => h)
      have hzw := HII.out.wf k
      generalize zs.getD k 0 = z at *
      obtain ⟨c, hcq, hcc, hz1, hz2⟩ := cutI_spec z q.size
      unfold cutI at hcc
      have hg1' : (k : Int) < (len : Int) := by omega
      have hg2' : (k : Int) < 20 := by omega
      have hw1 : IntKind.i64.wrap ((q.size : Int) + 1) = (q.size : Int) + 1 := IntWalk.i64_in _ (by omega)
      have hcs : (q.extract 0 c).size = c := by rw [ByteArray.size_extract]; omega
      have hsp : q.extract 0 c ++ q.extract c q.size = q := by
        rw [ByteArray.extract_append_extract]; simp
      have HW := Lib.hid (writeEnc_calls xb lv (fun k => w.heap.size ≤ k) (stR r) (q.extract 0 c) wr HE.out (HO.out.chg HC.out (fun h => h)) (HD.out.chg HC.out (fun h => h)) (by
        rintro j (hj | rfl)
        · exact ⟨by omega, by omega⟩
        · exact ⟨by omega, by omega⟩) hl9 (Nat.zero_le _) (by show r.size + _ ≤ _; omega))
      rw [stR_step] at HW
      have e0 : by8 (esB (stR r)) = [] := rfl
      have e1 : bstr [] = ByteArray.empty := rfl
      rw [e0] at HW
      have hsz2 : (q.extract c q.size).size = q.size - c := by rw [ByteArray.size_extract]; omega
      have HSP := Lib.hid hsp
      have HW0 := HC.out.size
      clear hsp e0
      go_wp2_with fail
      refine HW.out.mono ?_
      rintro e w4 ⟨rfl, hE4, hC4⟩
      rw [e1]
      have HE4 := Lib.hid (EncM.mono hE4 (fun k => w.heap.size ≤ k) (fun j hj => hj.elim (fun h => h) (fun h => by omega)))
      have HC4 : Hid (Chg (fun _ => False) w w4) := HC.out.trans hC4 (fun j hj => Or.inr (hj.elim (fun h => h) (fun h => by omega)))
      clear hE4 hC4 HW hc hc0 e1
      generalize q.extract 0 c = p at *
      go_wp2
      go_roundw
      case rel => exact ⟨k + 1, r ++ p, q.extract c q.size, by simp, rfl, by go_num, by omega, by omega, by rw [ByteArray.size_append]; omega, by show _ = _; rw [ByteArray.append_assoc, HSP.out]; exact HRQ.out, HE4, HC4⟩
      case measure => simp [intOf]; omega
    · have hst : r.size + q.size ≤ 16384 := by omega
      have HW := Lib.hid (writeEnc_calls xb lv (fun k => w.heap.size ≤ k) (stR r) q wr HE.out (HO.out.chg HC.out (fun h => h)) (HD.out.chg HC.out (fun h => h)) (by
        rintro j (hj | rfl)
        · exact ⟨by omega, by omega⟩
        · exact ⟨by omega, by omega⟩) hl9 (Nat.zero_le _) hst)
      rw [stR_step, HRQ.out] at HW
      have e0 : by8 (esB (stR r)) = [] := rfl
      have e1 : bstr [] = ByteArray.empty := rfl
      rw [e0] at HW
      have HW0 := HC.out.size
      have g1 : ¬ ((k : Int) < (len : Int) ∧ (k : Int) < 20) := by omega
      rcases Nat.lt_or_ge k len with h1 | h1
      · have g2 : (k : Int) < (len : Int) := by omega
        have g3 : ¬ (k : Int) < 20 := by omega
        clear e0
        go_wp2_with fail
        refine HW.out.mono ?_
        rintro e w4 ⟨rfl, hE4, hC4⟩
        rw [e1]
        have hC04 : Chg (fun _ => False) w w4 := HC.out.trans hC4 (fun j hj => Or.inr (hj.elim (fun h => h) (fun h => by omega)))
        have HCL := Lib.hid (closeEnc_calls xb lv (fun k => w.heap.size ≤ k) (stR s1) w4 (EncM.mono hE4 (fun k => w.heap.size ≤ k) (fun j hj => hj.elim (fun h => h) (fun h => by omega))) (HO.out.chg hC04 (fun h => h)) (HD.out.chg hC04 (fun h => h)) (by
          rintro j (hj | rfl)
          · exact ⟨by omega, by omega⟩
          · exact ⟨by omega, by omega⟩) hl9 (Nat.zero_le _) (by show s1.size ≤ _; omega) (by show 0 ≤ _; omega))
        rw [← HAL.out] at HCL
        have HC4 := Lib.hid hC04
        have HW4 := hC04.size
        clear hE4 hC4 HW hC04
        go_wp2_with fail
        refine HCL.out.mono ?_
        rintro e w5 ⟨rfl, ⟨a5, r5, hE5⟩, hC5⟩
        have c6 := EncM.c6 hE5
        have HC5 : Hid (Chg (fun _ => False) w w5) := HC4.out.trans hC5 (fun j hj => Or.inr (hj.elim (fun h => h) (fun h => by omega)))
        have HS1 := Lib.hid (writeShut_calls xb ⟨#[120]⟩ w5 c6)
        have HS2 := Lib.hid (closeShut_calls xb w5 c6)
        clear hE5 hC5 HCL c6
        go_wp2_with fail
        refine HS1.out.mono ?_
        rintro e w6 ⟨rfl, rfl⟩
        go_wp2_with fail
        refine HS2.out.mono ?_
        rintro e w6 ⟨rfl, rfl⟩
        have hjn : ByteArray.empty ++ ByteArray.empty ++ bstr out = bstr out := by simp
        have hbz : (bstr out).size ≤ 1000000 := by rw [bstr_size]; exact HOL.out
        go_wp2
        go_ret
        exact ⟨rfl, HC5.out⟩
      · have g2 : ¬ (k : Int) < (len : Int) := by omega
        clear e0
        go_wp2_with fail
        refine HW.out.mono ?_
        rintro e w4 ⟨rfl, hE4, hC4⟩
        rw [e1]
        have hC04 : Chg (fun _ => False) w w4 := HC.out.trans hC4 (fun j hj => Or.inr (hj.elim (fun h => h) (fun h => by omega)))
        have HCL := Lib.hid (closeEnc_calls xb lv (fun k => w.heap.size ≤ k) (stR s1) w4 (EncM.mono hE4 (fun k => w.heap.size ≤ k) (fun j hj => hj.elim (fun h => h) (fun h => by omega))) (HO.out.chg hC04 (fun h => h)) (HD.out.chg hC04 (fun h => h)) (by
          rintro j (hj | rfl)
          · exact ⟨by omega, by omega⟩
          · exact ⟨by omega, by omega⟩) hl9 (Nat.zero_le _) (by show s1.size ≤ _; omega) (by show 0 ≤ _; omega))
        rw [← HAL.out] at HCL
        have HC4 := Lib.hid hC04
        have HW4 := hC04.size
        clear hE4 hC4 HW hC04
        go_wp2_with fail
        refine HCL.out.mono ?_
        rintro e w5 ⟨rfl, ⟨a5, r5, hE5⟩, hC5⟩
        have c6 := EncM.c6 hE5
        have HC5 : Hid (Chg (fun _ => False) w w5) := HC4.out.trans hC5 (fun j hj => Or.inr (hj.elim (fun h => h) (fun h => by omega)))
        have HS1 := Lib.hid (writeShut_calls xb ⟨#[120]⟩ w5 c6)
        have HS2 := Lib.hid (closeShut_calls xb w5 c6)
        clear hE5 hC5 HCL c6
        go_wp2_with fail
        refine HS1.out.mono ?_
        rintro e w6 ⟨rfl, rfl⟩
        go_wp2_with fail
        refine HS2.out.mono ?_
        rintro e w6 ⟨rfl, rfl⟩
        have hjn : ByteArray.empty ++ ByteArray.empty ++ bstr out = bstr out := by simp
        have hbz : (bstr out).size ≤ 1000000 := by rw [bstr_size]; exact HOL.out
        go_wp2
        go_ret
        exact ⟨rfl, HC5.out⟩
end Go.Proofs.YtakoidkeaccgeaaDoor
