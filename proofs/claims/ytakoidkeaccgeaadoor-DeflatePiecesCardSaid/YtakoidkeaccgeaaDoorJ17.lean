/- bits: Put: a number's bytes, the lowest first. -/
import Derived.Test.YtakoidkeaccgeaaDoorJ13
import Derived.Test.YtakoidkeaccgeaaDoorJ4
import Derived.Test.YtakoidkeaccgeaaDoorJ16
namespace Go.Proofs.YtakoidkeaccgeaaDoor
open Go.RowKit

/-- The bytes of a number, the lowest first. -/
def putN (v : Nat) : Nat → List Nat
  | 0 => []
  | k + 1 => putN v k ++ [v / 256 ^ k % 256]
theorem putN_length (v : Nat) : ∀ k, (putN v k).length = k
  | 0 => rfl
  | k + 1 => by simp [putN, putN_length v k]
theorem putN_lt (v : Nat) : ∀ k, ∀ d ∈ putN v k, d < 256
  | 0, d, h => by simp [putN] at h
  | k + 1, d, h => by
    rcases List.mem_append.1 h with h | h
    · exact putN_lt v k d h
    · simp at h; omega
/-- What is put after k rounds: the rest is 0. -/
def putZ (v n k : Nat) : List Nat := putN v k ++ List.replicate (n - k) 0
theorem putZ_length (v n k : Nat) (h : k ≤ n) : (putZ v n k).length = n := by simp [putZ, putN_length]; omega
theorem putZ_set (v n k : Nat) (h : k < n) : (putZ v n k).set k (v / 256 ^ k % 256) = putZ v n (k + 1) := by
  unfold putZ
  rw [List.set_append_right _ _ (by rw [putN_length]; exact Nat.le_refl _), putN_length, Nat.sub_self, show n - k = (n - (k + 1)) + 1 by omega, List.replicate_succ, List.set_cons_zero, putN, List.append_assoc]
  rfl
theorem u8s_set (l : List Nat) (i x : Nat) : (u8s l).set i (.int .u8 (x : Int)) = u8s (l.set i x) := by simp [u8s]
theorem made_zeros8 (n : Nat) : madeCells (Value.int .u8 0).cells (n * 1) = (u8s (List.replicate n 0)).toArray := by
  apply Array.ext'
  apply List.ext_getElem?
  intro i
  by_cases h : i < n
  · simp [madeCells, u8s, h, Value.cells, Nat.mod_one]
  · simp [madeCells, u8s, h, Value.cells]
theorem make_bytes (n : Nat) (hn : n ≤ 1000) (w : World) : (Instr.makeSlice 25 (.int .i64 (n : Int)) (.int .i64 (n : Int))).run Tryd.prog w = .ok (.slice (some ⟨w.heap.size, 0, none⟩) n n) (w.alloc (.cells (u8s (List.replicate n 0)).toArray 5)) := by
  obtain ⟨ii, hii, hi0, hi1, hi2⟩ := info_parts infoU8
  have := run_make (P := Tryd.prog) w 25 5 ii (.int .u8 0) Tryd.underlying25 hii hi0 .i64 .i64 n n (by omega) (by omega) (by rw [hi2]; omega) (by omega)
  rw [this, hi1, Int.toNat_natCast, made_zeros8]

set_option maxHeartbeats 3200000 in
set_option maxRecDepth 100000 in
theorem put_calls (v n : Nat) (w : World) (hv : v < 2 ^ 64) (h1 : 1 ≤ n) (h8 : n ≤ 8) :
    Calls Tryd.prog 24 #[.int .u64 (v : Int), .int .i64 (n : Int)] w fun e w' => e = .returned (.string (bstr (putN v n))) ∧ Chg (fun _ => False) w w' := by
  have hmk := make_bytes n (by omega)
  have k1 : decide ((n : Int) < 1) = false := by simp; omega
  have k2 : decide ((8 : Int) < (n : Int)) = false := by simp; omega
  have HV := Lib.hid hv
  clear hv
  go_enter Tryd.func24, Tryd.ntmps24
  go_wp2
  have hb0 : Blk (w.alloc (.cells (u8s (List.replicate n 0)).toArray 5)) w.heap.size (u8s (putZ v n 0)) 5 := Blk.new w _ _
  have hc0 : Chg (fun _ => False) w (w.alloc (.cells (u8s (List.replicate n 0)).toArray 5)) := (Chg.refl _ _).alloc _
  have HB0 := Lib.hid hb0
  have HC0 := Lib.hid hc0
  clear hb0 hc0 hmk
  generalize w.alloc (.cells (u8s (List.replicate n 0)).toArray 5) = w1 at HB0 HC0 ⊢
  go_loopw [17] (fun i W => ∃ k : Nat, k ≤ n ∧ i = .int .i64 (k : Int) ∧ Hid (Blk W w.heap.size (u8s (putZ v n k)) 5) ∧ Hid (Chg (fun _ => False) w W)) (fun i _ => n - (intOf i).toNat)
  case atStart => exact ⟨0, Nat.zero_le _, rfl, HB0, HC0⟩
  case round =>
    obtain ⟨k, hk, rfl, HB, HC⟩ := hrel
    by_cases hkl : k < n
    · have hkl2 : (k : Int) < (n : Int) := by omega
      have hpl := putZ_length v n k hk
      have hcell : wr.cell? ⟨w.heap.size, k, none⟩ = some (.int .u8 (gN (putZ v n k) k : Int)) := by
        rw [HB.out.cell k]; simp [u8s, gN_get _ k (by omega : k < (putZ v n k).length)]
      have hfr := HB.out.frozen k
      clear hpl
      have hval : (v : Int) / 2 ^ (8 * k) % 256 = ((v / 256 ^ k % 256 : Nat) : Int) := by
        have hp : (256 : Nat) ^ k = 2 ^ (8 * k) := by rw [show (256 : Nat) = 2 ^ 8 from rfl, ← Nat.pow_mul]
        rw [hp]
        simp
      have HVA := Lib.hid hval
      clear hval
      go_wp2
      go_roundw
      case rel =>
        refine ⟨k + 1, by omega, by go_num, ?_, ?_⟩
        · show Blk _ _ _ _
          rw [HVA.out, ← putZ_set v n k hkl, ← u8s_set]
          exact HB.out.set k _
        · show Chg _ _ _
          exact HC.out.setCell (p := ⟨w.heap.size, k, none⟩) (Or.inr (Nat.le_refl _)) _
      case measure => simp [intOf]; omega
    · obtain rfl : k = n := by omega
      have hkl2 : ¬ (k : Int) < (k : Int) := by omega
      have hcv := run_convert_bytes_arg (P := Tryd.prog) wr 25 5 Tryd.underlying25 Tryd.underlying5 w.heap.size 0 k k ((putN v k).map fun d : Nat => (d : Int)) (by simp [putN_length]) (by
        intro i hi
        have hc := HB.out.cell (0 + i)
        rw [Nat.zero_add] at hc ⊢
        rw [hc]
        simp [putZ, u8s, putN_length, hi]) 9 Tryd.underlying9
      go_wp2
      go_returns
      refine ⟨?_, HC.out⟩
      simp [strOfNums, bstr, Function.comp_def]
end Go.Proofs.YtakoidkeaccgeaaDoor

/- block: Write. -/
namespace Go.Proofs.YtakoidkeaccgeaaDoor
open Go.RowKit Go.Shelf Go.Sort
attribute [local go_sem ↓] Go.wp_at_zero Go.wp_at_succ
variable {F : Nat → Option Value}

/-- The bits behind a block, where bs were written. -/
def blockB (bs : List Bool) (kind : Nat) (last : Bool) (s : ByteArray) (l : List Tok) : List Bool :=
  match kind with
  | 0 => algn (bs ++ nb 3 (if last then 1 else 0)) ++ byb (putN s.size 2 ++ putN (65535 - s.size) 2 ++ sby s)
  | 1 => bs ++ nb 3 (2 + if last then 1 else 0) ++ toksB fixL fixD l l.length ++ cword fixL 256
  | _ => bs ++ nb 3 (4 + if last then 1 else 0) ++ headB (dynA l) (dynB l) (dynC l) (dynZ l) (dynT l) ++ toksB (dynXs l) (dynYs l) l l.length ++ cword (dynXs l) 256

/-- What the writer of a block needs. -/
structure BIn (F : Nat → Option Value) (w : World) (S T : Nat → Prop) (b o : Nat) (v : Value) (l : List Tok) (bs : List Bool) : Prop where
  row : Row w T 27 3 v l.length (tks l)
  ok : ∀ t ∈ l, t.ok
  len : l.length ≤ 65535
  ord : OrdM w
  wb : WB F w S b o bs
  dis : ∀ k, T k ∨ k = 0 → ¬ (S k ∨ k = b)
  lt : ∀ k, T k → k < w.heap.size
  bl : bs.length ≤ 70368744177664
theorem sby_append (a b : ByteArray) : sby (a ++ b) = sby a ++ sby b := by
  simp [sby, ByteArray.data_append]
theorem sby_bstr (l : List Nat) (h : ∀ d ∈ l, d < 256) : sby (bstr l) = l := by
  simp only [sby, bstr, List.map_map]
  have : ∀ d ∈ l, (UInt8.toNat ∘ UInt8.ofNat) d = d := fun d hd => by
    have := h d hd
    simp only [Function.comp, UInt8.toNat_ofNat']
    omega
  exact (List.map_congr_left this).trans (List.map_id' l)
theorem algn_algn (bs : List Bool) : algn (algn bs) = algn bs := by
  have := algn_len bs
  show algn bs ++ List.replicate ((8 - (algn bs).length % 8) % 8) false = algn bs
  rw [this]; simp

set_option maxHeartbeats 3200000 in
set_option maxRecDepth 100000 in
theorem blockWrite0_calls (b o : Nat) (S T : Nat → Prop) (last : Bool) (s : ByteArray) (v : Value) (l : List Tok) (bs : List Bool) (w : World) (hs : s.size ≤ 65535) (H : BIn F w S T b o v l bs) :
    Calls Tryd.prog 7 #[.pointer (some ⟨b, o, none⟩), .int .i64 0, .bool last, .string s, v] w fun e w' => e = .returned (.int .i64 0) ∧
      WB F w' (fun i => S i ∨ w.heap.size ≤ i) b o (blockB bs 0 last s l) ∧ Chg (fun i => S i ∨ i = b) w w' := by
  have HM := Lib.hid (may_calls 0 s T v l w (by omega) hs H.row H.ok H.len)
  have HH := Lib.hid H
  clear H
  go_enter Tryd.func7, Tryd.ntmps7
  go_wp2_with fail
  refine HM.out.mono ?_
  rintro e w1 ⟨rfl, hc1⟩
  have HW1 := Lib.hid (HH.out.wb.chg hc1 (fun _ _ _ h => h) (fun h => h))
  have hz1 := hc1.size
  have HC1 := Lib.hid hc1
  clear hc1 HM
  have hbl := HH.out.bl
  have key : ∀ (h : Nat) (w2 : World), Hid (WB F w2 (fun i => S i ∨ w1.heap.size ≤ i) b o (bs ++ nb 3 h)) → Hid (Chg (fun i => S i ∨ i = b) w1 w2) →
      Calls Tryd.prog 8 #[.pointer (some ⟨b, o, none⟩)] w2 fun e w' => e = .returned (.tuple #[]) ∧ WB F w' (fun i => S i ∨ w.heap.size ≤ i) b o (algn (bs ++ nb 3 h)) ∧ Chg (fun i => S i ∨ i = b) w w' := by
    intro h w2 HW2 HC2
    have hz2 := HC2.out.size
    refine (align_calls b o _ _ w2 HW2.out (by rw [List.length_append, nb_length]; omega)).mono ?_
    rintro e w3 ⟨rfl, hW, hC⟩
    exact ⟨rfl, hW.mono (fun i h => h.elim (fun h => h.imp id (fun h => by omega)) (fun h => Or.inr (by omega))), ((HC1.out.mono (T := fun i => S i ∨ i = b) (fun _ h => h.elim)).trans HC2.out (fun i h => Or.inl h)).trans hC (fun i h => h.elim (fun h => h.elim (fun h => Or.inl (Or.inl h)) (fun h => Or.inr (by omega))) (fun h => Or.inl (Or.inr h)))⟩
  have HP1 := Lib.hid (fun W => put_calls s.size 2 W (by omega) (by omega) (by omega))
  have HP2 := Lib.hid (fun W => put_calls (65535 - s.size) 2 W (by omega) (by omega) (by omega))
  have hw1 : IntKind.u64.wrap (s.size : Int) = (s.size : Int) := wraps_u64 _ (by omega) (by omega)
  have hca : (65535 : Int) - (s.size : Int) = ((65535 - s.size : Nat) : Int) := by omega
  have HCA := Lib.hid hca
  clear hca
  have hq1 : (bstr (putN s.size 2)).size = 2 := by rw [bstr_size, putN_length]
  have hq2 : (bstr (putN (65535 - s.size) 2)).size = 2 := by rw [bstr_size, putN_length]
  have hn1 : ¬ 9223372036854775807 < (bstr (putN s.size 2)).size + (bstr (putN (65535 - s.size) 2)).size := by omega
  have hn2 : ¬ 9223372036854775807 < (bstr (putN s.size 2)).size + (bstr (putN (65535 - s.size) 2)).size + s.size := by omega
  have hys : (bstr (putN s.size 2) ++ bstr (putN (65535 - s.size) 2) ++ s).size ≤ 70000 := by rw [ByteArray.size_append, ByteArray.size_append]; omega
  have HYS := Lib.hid hys
  have hsb : sby (bstr (putN s.size 2) ++ bstr (putN (65535 - s.size) 2) ++ s) = putN s.size 2 ++ putN (65535 - s.size) 2 ++ sby s := by
    rw [sby_append, sby_append, sby_bstr _ (putN_lt _ _), sby_bstr _ (putN_lt _ _)]
  have HSB := Lib.hid hsb
  clear hq1 hq2 hys hsb
  have HKEY := Lib.hid key
  clear key
  have hfin : ∀ (h : Nat) (w3 : World), Hid (WB F w3 (fun i => S i ∨ w.heap.size ≤ i) b o (algn (bs ++ nb 3 h))) → Hid (Chg (fun i => S i ∨ i = b) w w3) → ∀ w5, Hid (Chg (fun _ => False) w3 w5) → ∀ y : ByteArray, y.size ≤ 70000 → 
      Calls Tryd.prog 23 #[.pointer (some ⟨b, o, none⟩), .string y] w5 fun e w' => e = .returned (.tuple #[]) ∧ WB F w' (fun i => S i ∨ w.heap.size ≤ i) b o (algn (bs ++ nb 3 h) ++ byb (sby y)) ∧ Chg (fun i => S i ∨ i = b) w w' := by
    intro h w3 HW3 HC3 w5 HC5 y hy
    have hz3 := HC3.out.size
    have hz5 := HC5.out.size
    have hal := algn_le (bs ++ nb 3 h)
    rw [List.length_append, nb_length] at hal
    refine (add_calls b o _ _ y w5 (HW3.out.chg HC5.out (fun _ _ _ h => h) (fun h => h)) (by omega) (by omega)).mono ?_
    rintro e w6 ⟨rfl, hW, hC⟩
    rw [algn_algn] at hW
    exact ⟨rfl, hW.mono (fun i h => h.elim id (fun h => Or.inr (by omega))), (HC3.out.trans HC5.out (fun _ h => h.elim)).trans hC (fun i h => h.elim (fun h => h.elim (fun h => Or.inl (Or.inl h)) Or.inr) (fun h => Or.inl (Or.inr h)))⟩
  have HFIN := Lib.hid hfin
  clear hfin
  cases last
  · go_wp2_with fail
    refine (writeA_calls b o S bs 0 3 w1 HW1.out (by omega) (by omega) (by omega)).mono ?_
    rintro e w2 ⟨rfl, hW2, hc2⟩
    have HAL := Lib.hid (HKEY.out 0 w2 hW2 hc2)
    clear hW2 hc2
    go_wp2_with fail
    refine HAL.out.mono ?_
    rintro e w3 ⟨rfl, hW3, hc3⟩
    have HW3 := Lib.hid hW3
    have HC3 := Lib.hid hc3
    clear hW3 hc3
    go_wp2_with fail
    refine (HP1.out w3).mono ?_
    rintro e w4 ⟨rfl, hc4⟩
    have HC4 := Lib.hid hc4
    clear hc4
    go_wp2_with fail
    rw [HCA.out]
    refine (HP2.out w4).mono ?_
    rintro e w5 ⟨rfl, hc5⟩
    have HC5 : Hid (Chg (fun _ => False) w3 w5) := HC4.out.trans hc5 (fun _ h => h.elim)
    clear hc5
    go_wp2_with fail
    refine (HFIN.out _ w3 HW3 HC3 w5 HC5 _ HYS.out).mono ?_
    rintro e w6 ⟨rfl, hW6, hC6⟩
    go_wp2
    go_ret
    rw [HSB.out] at hW6
    exact ⟨rfl, hW6, hC6⟩
  · go_wp2_with fail
    rw [show bits .or .u64 0 1 = ((1 : Nat) : Int) from by decide]
    refine (writeA_calls b o S bs 1 3 w1 HW1.out (by omega) (by omega) (by omega)).mono ?_
    rintro e w2 ⟨rfl, hW2, hc2⟩
    have HAL := Lib.hid (HKEY.out 1 w2 hW2 hc2)
    clear hW2 hc2
    go_wp2_with fail
    refine HAL.out.mono ?_
    rintro e w3 ⟨rfl, hW3, hc3⟩
    have HW3 := Lib.hid hW3
    have HC3 := Lib.hid hc3
    clear hW3 hc3
    go_wp2_with fail
    refine (HP1.out w3).mono ?_
    rintro e w4 ⟨rfl, hc4⟩
    have HC4 := Lib.hid hc4
    clear hc4
    go_wp2_with fail
    rw [HCA.out]
    refine (HP2.out w4).mono ?_
    rintro e w5 ⟨rfl, hc5⟩
    have HC5 : Hid (Chg (fun _ => False) w3 w5) := HC4.out.trans hc5 (fun _ h => h.elim)
    clear hc5
    go_wp2_with fail
    refine (HFIN.out _ w3 HW3 HC3 w5 HC5 _ HYS.out).mono ?_
    rintro e w6 ⟨rfl, hW6, hC6⟩
    go_wp2
    go_ret
    rw [HSB.out] at hW6
    exact ⟨rfl, hW6, hC6⟩
end Go.Proofs.YtakoidkeaccgeaaDoor

/- block: Write, the kinds with codes. -/
namespace Go.Proofs.YtakoidkeaccgeaaDoor
open Go.RowKit Go.Shelf Go.Sort
attribute [local go_sem ↓] Go.wp_at_zero Go.wp_at_succ
variable {F : Nat → Option Value}

/-- Tokens told by a coder that was just made, at a writer of elder memory. -/
theorem tokens_at (kb cs cd b o wz wu : Nat) (S T : Nat → Prop) (rest : List Value) (v : Value) (ls ld : List Nat) (l : List Tok) (bs : List Bool) (w : World)
    (hk : Blk w kb (ptr0 cs :: ptr0 cd :: rest) 81) (hkz : wz ≤ kb ∧ kb < wu) (hwu : wu ≤ w.heap.size) (hcs : CodeM w (fun i => wz ≤ i ∧ i < wu) cs ls) (hcd : CodeM w (fun i => wz ≤ i ∧ i < wu) cd ld) (hr : Row w T 27 3 v l.length (tks l)) (hl : ∀ t ∈ l, t.ok)
    (hW : WB F w S b o bs) (hS : ∀ k, S k → k < wz ∨ wu ≤ k) (hb : b < wz) (hd : ∀ k, T k → ¬ (S k ∨ k = b)) (hT : ∀ k, T k → k < w.heap.size) (hlen : bs.length + 48 * l.length + 15 ≤ 281474976710656) :
    Calls Tryd.prog 26 #[ptr0 kb, .pointer (some ⟨b, o, none⟩), v] w fun e w' => e = .returned (.tuple #[]) ∧
      WB F w' (fun i => S i ∨ w.heap.size ≤ i) b o (bs ++ toksB ls ld l l.length ++ cword ls 256) ∧ Chg (fun i => S i ∨ i = b) w w' := by
  refine tokens_calls kb cs cd b o S (fun k => T k ∨ (wz ≤ k ∧ k < wu)) rest v ls ld l bs w hk (Or.inr hkz) (hcs.mono (fun i hi => Or.inr hi)) (hcd.mono (fun i hi => Or.inr hi)) (hr.mono (fun i hi => Or.inl hi)) hl hW ?_ ?_ hlen
  · rintro k (hk | hk)
    · exact hd k hk
    · rintro (h | h)
      · rcases hS k h with h | h <;> omega
      · omega
  · rintro k (hk | hk)
    · exact hT k hk
    · omega

set_option maxHeartbeats 3200000 in
set_option maxRecDepth 100000 in
theorem blockWrite1_calls (b o : Nat) (S T : Nat → Prop) (last : Bool) (s : ByteArray) (v : Value) (l : List Tok) (bs : List Bool) (w : World) (hs : s.size ≤ 65535) (H : BIn F w S T b o v l bs) :
    Calls Tryd.prog 7 #[.pointer (some ⟨b, o, none⟩), .int .i64 1, .bool last, .string s, v] w fun e w' => e = .returned (.int .i64 0) ∧
      WB F w' (fun i => S i ∨ w.heap.size ≤ i) b o (blockB bs 1 last s l) ∧ Chg (fun i => S i ∨ i = b) w w' := by
  have HM := Lib.hid (may_calls 1 s T v l w (by omega) hs H.row H.ok H.len)
  have HH := Lib.hid H
  have hbl := H.bl
  have hll := H.len
  have hbw := H.wb.lt
  clear H
  -- behind the head
  have key : ∀ (h : Nat) (w1 w2 : World), Hid (Chg (fun _ => False) w w1) → WB F w2 (fun i => S i ∨ w1.heap.size ≤ i) b o (bs ++ nb 3 h) → Chg (fun i => S i ∨ i = b) w1 w2 →
      Hid (∀ (w3 : World) (kb cs cd : Nat), w2.heap.size ≤ kb → Blk w3 kb [.pointer (some ⟨cs, 0, none⟩), .pointer (some ⟨cd, 0, none⟩), .pointer none, .slice none 0 0, .int .i64 0, .int .i64 0, .int .i64 0] 81 →
        CodeM w3 (fun k => w2.heap.size ≤ k) cs fixL → CodeM w3 (fun k => w2.heap.size ≤ k) cd fixD → Chg (fun _ => False) w2 w3 →
        Calls Tryd.prog 26 #[ptr0 kb, .pointer (some ⟨b, o, none⟩), v] w3 fun e w' => e = .returned (.tuple #[]) ∧ WB F w' (fun i => S i ∨ w.heap.size ≤ i) b o (bs ++ nb 3 h ++ toksB fixL fixD l l.length ++ cword fixL 256) ∧ Chg (fun i => S i ∨ i = b) w w') := by
    intro h w1 w2 HC1 HW2 HC2
    show ∀ _, _
    intro w3 kb cs cd hkz hk hcs hcd hc3
    have hz1 := HC1.out.size
    have hz2 := HC2.size
    have hz3 := hc3.size
    have hC13 := ((HC1.out.mono (T := fun i => S i ∨ i = b) (fun _ h => h.elim)).trans HC2 (fun i h => Or.inl h))
    have hdis : ∀ i, T i → ¬ (S i ∨ i = b) := fun i hi => HH.out.dis i (Or.inl hi)
    refine (tokens_at kb cs cd b o w2.heap.size w3.heap.size (fun i => (S i ∨ w1.heap.size ≤ i) ∧ i < w2.heap.size) T _ v fixL fixD l _ w3 hk ⟨hkz, hk.lt⟩ (Nat.le_refl _) hcs.tight hcd.tight ((HH.out.row.chg hC13 (fun i hi _ => hdis i hi)).chg hc3 (fun _ _ _ h => h)) HH.out.ok
      (HW2.tight.chg hc3 (fun _ _ _ h => h) (fun h => h)) (fun k hk => Or.inl hk.2) (by omega) ?_ (fun k hk => by have := HH.out.lt k hk; omega) (by rw [List.length_append, nb_length]; omega)).mono ?_
    · intro k hk
      have h1 := HH.out.lt k hk
      rintro (⟨h2 | h2, _⟩ | h2)
      · exact hdis k hk (Or.inl h2)
      · omega
      · exact hdis k hk (Or.inr h2)
    · rintro e w4 ⟨rfl, hW, hC⟩
      exact ⟨rfl, hW.mono (fun i h => h.elim (fun h => h.1.imp id (fun h => by omega)) (fun h => Or.inr (by omega))), (hC13.trans hc3 (fun _ h => h.elim)).trans hC (fun i h => h.elim (fun h => h.1.elim (fun h => Or.inl (Or.inl h)) (fun h => Or.inr (by omega))) (fun h => Or.inl (Or.inr h)))⟩
  go_enter Tryd.func7, Tryd.ntmps7
  go_wp2_with fail
  refine HM.out.mono ?_
  rintro e w1 ⟨rfl, hc1⟩
  have HW1 := Lib.hid (HH.out.wb.chg hc1 (fun _ _ _ h => h) (fun h => h))
  have HC1 := Lib.hid hc1
  have HKEY := Lib.hid key
  clear hc1 HM key
  cases last
  · go_wp2_with fail
    refine (writeA_calls b o S bs 2 3 w1 HW1.out (by omega) (by omega) (by omega)).mono ?_
    rintro e w2 ⟨rfl, hW2, hc2⟩
    have HT := HKEY.out 2 w1 w2 HC1 hW2 hc2
    clear hW2 hc2
    go_wp2_with fail
    refine (fixedCoder_calls w2).mono ?_
    rintro e w3 ⟨kb, cs, cd, rfl, hkz, hk, hcs, hcd, hc3⟩
    have HT2 := Lib.hid (HT.out w3 kb cs cd hkz hk hcs hcd hc3)
    clear hk hcs hcd hc3
    go_wp2_with fail
    refine HT2.out.mono ?_
    rintro e w4 ⟨rfl, hW, hC⟩
    have HW4 := Lib.hid hW
    have HC4 := Lib.hid hC
    clear hW hC
    go_wp2
    go_ret
    exact ⟨rfl, HW4.out, HC4.out⟩
  · go_wp2_with fail
    rw [show bits .or .u64 2 1 = ((3 : Nat) : Int) from by decide]
    refine (writeA_calls b o S bs 3 3 w1 HW1.out (by omega) (by omega) (by omega)).mono ?_
    rintro e w2 ⟨rfl, hW2, hc2⟩
    have HT := HKEY.out 3 w1 w2 HC1 hW2 hc2
    clear hW2 hc2
    go_wp2_with fail
    refine (fixedCoder_calls w2).mono ?_
    rintro e w3 ⟨kb, cs, cd, rfl, hkz, hk, hcs, hcd, hc3⟩
    have HT2 := Lib.hid (HT.out w3 kb cs cd hkz hk hcs hcd hc3)
    clear hk hcs hcd hc3
    go_wp2_with fail
    refine HT2.out.mono ?_
    rintro e w4 ⟨rfl, hW, hC⟩
    have HW4 := Lib.hid hW
    have HC4 := Lib.hid hC
    clear hW hC
    go_wp2
    go_ret
    exact ⟨rfl, HW4.out, HC4.out⟩
end Go.Proofs.YtakoidkeaccgeaaDoor

/- block: Write, the kind Dynamic. -/
namespace Go.Proofs.YtakoidkeaccgeaaDoor
open Go.RowKit Go.Shelf Go.Sort
attribute [local go_sem ↓] Go.wp_at_zero Go.wp_at_succ
variable {F : Nat → Option Value}

theorem headB_le (a bb c : Nat) (z : List Nat) (t : List (Nat × Nat × Nat)) (hc : c ≤ 19) (ht : ∀ x ∈ t, XOk x) (hl : t.length ≤ 316) : (headB a bb c z t).length ≤ 14 + 57 + 22 * 316 := by
  have h1 := zB_length z c
  have h2 := tB_le z t ht t.length (Nat.le_refl _)
  unfold headB
  rw [List.length_append, List.length_append, nb_length]
  omega
set_option maxHeartbeats 3200000 in
set_option maxRecDepth 100000 in
theorem blockWrite2_calls (b o : Nat) (S T : Nat → Prop) (last : Bool) (s : ByteArray) (v : Value) (l : List Tok) (bs : List Bool) (w : World) (hs : s.size ≤ 65535) (H : BIn F w S T b o v l bs) :
    Calls Tryd.prog 7 #[.pointer (some ⟨b, o, none⟩), .int .i64 2, .bool last, .string s, v] w fun e w' => e = .returned (.int .i64 0) ∧
      WB F w' (fun i => S i ∨ w.heap.size ≤ i) b o (blockB bs 2 last s l) ∧ Chg (fun i => S i ∨ i = b) w w' := by
  have HM := Lib.hid (may_calls 2 s T v l w (by omega) hs H.row H.ok H.len)
  have HH := Lib.hid H
  have D := Lib.hid (dyn_ok l)
  have hbl := H.bl
  have hll := H.len
  have hbw := H.wb.lt
  have hof := H.ord.lt
  clear H
  -- the coder behind the head
  have key0 : ∀ (h : Nat) (w1 w2 : World), Hid (Chg (fun _ => False) w w1) → WB F w2 (fun i => S i ∨ w1.heap.size ≤ i) b o (bs ++ nb 3 h) → Chg (fun i => S i ∨ i = b) w1 w2 →
      Hid (Calls Tryd.prog 27 #[v] w2 fun e w' => ∃ kb cs cd ct vt, e = .returned (ptr0 kb) ∧ w2.heap.size ≤ kb ∧ Blk w' kb (cdC (ptr0 cs) (ptr0 cd) (ptr0 ct) vt (dynA l) (dynB l) (dynC l)) 81 ∧
      CodeM w' (fun i => w2.heap.size ≤ i) cs (dynXs l) ∧ CodeM w' (fun i => w2.heap.size ≤ i) cd (dynYs l) ∧ CodeM w' (fun i => w2.heap.size ≤ i) ct (dynZ l) ∧
      Row w' (fun i => w2.heap.size ≤ i) 72 3 vt (dynT l).length (xcs (dynT l)) ∧ Chg (fun _ => False) w2 w') := by
    intro h w1 w2 HC1 HW2 HC2
    have hC02 := ((HC1.out.mono (T := fun i => S i ∨ i = b) (fun _ h => h.elim)).trans HC2 (fun i h => Or.inl h))
    exact Lib.hid (dynamicCoder_calls T v l w2 (HH.out.row.chg hC02 (fun i hi _ => HH.out.dis i (Or.inl hi))) HH.out.ok hll (HH.out.ord.chg hC02 (HH.out.dis _ (Or.inr rfl))))
  have key1 : ∀ (h : Nat) (w1 w2 : World), Hid (Chg (fun _ => False) w w1) → WB F w2 (fun i => S i ∨ w1.heap.size ≤ i) b o (bs ++ nb 3 h) → Chg (fun i => S i ∨ i = b) w1 w2 →
      Hid (∀ (w3 : World) (kb cs cd ct : Nat) (vt : Value), w2.heap.size ≤ kb → Blk w3 kb (cdC (ptr0 cs) (ptr0 cd) (ptr0 ct) vt (dynA l) (dynB l) (dynC l)) 81 →
        CodeM w3 (fun i => w2.heap.size ≤ i) cs (dynXs l) → CodeM w3 (fun i => w2.heap.size ≤ i) cd (dynYs l) → CodeM w3 (fun i => w2.heap.size ≤ i) ct (dynZ l) →
        Row w3 (fun i => w2.heap.size ≤ i) 72 3 vt (dynT l).length (xcs (dynT l)) → Chg (fun _ => False) w2 w3 →
        Calls Tryd.prog 28 #[ptr0 kb, .pointer (some ⟨b, o, none⟩)] w3 fun e w' => e = .returned (.tuple #[]) ∧
          Hid (Calls Tryd.prog 26 #[ptr0 kb, .pointer (some ⟨b, o, none⟩), v] w' fun e w' => e = .returned (.tuple #[]) ∧ WB F w' (fun i => S i ∨ w.heap.size ≤ i) b o (bs ++ nb 3 h ++ headB (dynA l) (dynB l) (dynC l) (dynZ l) (dynT l) ++ toksB (dynXs l) (dynYs l) l l.length ++ cword (dynXs l) 256) ∧ Chg (fun i => S i ∨ i = b) w w')) := by
    intro h w1 w2 HC1 HW2 HC2
    show ∀ _, _
    intro w3 kb cs cd ct vt hkz hk hcs hcd hct hrt hc3
    have hz1 := HC1.out.size
    have hz2 := HC2.size
    have hz3 := hc3.size
    have hC13 := ((HC1.out.mono (T := fun i => S i ∨ i = b) (fun _ h => h.elim)).trans HC2 (fun i h => Or.inl h))
    have hdis : ∀ i, T i → ¬ (S i ∨ i = b) := fun i hi => HH.out.dis i (Or.inl hi)
    have hord3 := (HH.out.ord.chg hC13 (HH.out.dis _ (Or.inr rfl))).chg hc3 (fun h => h)
    refine (head_calls kb ct b o (fun i => (S i ∨ w1.heap.size ≤ i) ∧ i < w2.heap.size) (fun i => w2.heap.size ≤ i ∧ i < w3.heap.size) (ptr0 cs) (ptr0 cd) vt (dynA l) (dynB l) (dynC l) (dynZ l) (dynT l) _ w3 hk ⟨hkz, hk.lt⟩ hct.tight hrt.tight hord3
      (HW2.tight.chg hc3 (fun _ _ _ h => h) (fun h => h)) ?_ (fun k hk => hk.2) D.out.a1 D.out.a2 D.out.b1 D.out.b2 D.out.c1 D.out.c2 D.out.lenZ D.out.z7 D.out.okT D.out.lenT D.out.posT (by rw [List.length_append, nb_length]; omega)).mono ?_
    · rintro k (hk | rfl)
      · rintro (⟨_, h2⟩ | h2)
        · omega
        · omega
      · have h1 := HH.out.dis _ (Or.inr rfl)
        rintro (⟨h2 | h2, _⟩ | h2)
        · exact h1 (Or.inl h2)
        · omega
        · exact h1 (Or.inr h2)
    · rintro e w4 ⟨rfl, hW4, hC4⟩
      refine ⟨rfl, ?_⟩
      show Calls _ _ _ _ _
      have hz4 := hC4.size
      have hkp : ∀ i, w2.heap.size ≤ i → i < w3.heap.size → ¬ (((S i ∨ w1.heap.size ≤ i) ∧ i < w2.heap.size) ∨ i = b) := by
        rintro i hi _ (⟨_, h2⟩ | h2)
        · omega
        · omega
      have hh := headB_le (dynA l) (dynB l) (dynC l) (dynZ l) (dynT l) D.out.c2 D.out.okT D.out.lenT
      have hrow3 := ((HH.out.row.chg hC13 (fun i hi _ => hdis i hi)).chg hc3 (fun _ _ _ h => h))
      have hT4 : ∀ k, T k → ¬ ((((S k ∨ w1.heap.size ≤ k) ∧ k < w2.heap.size) ∨ w3.heap.size ≤ k) ∨ k = b) := by
        intro k hk
        have h1 := HH.out.lt k hk
        rintro ((⟨h2 | h2, _⟩ | h2) | h2)
        · exact hdis k hk (Or.inl h2)
        · omega
        · omega
        · exact hdis k hk (Or.inr h2)
      refine (tokens_at kb cs cd b o w2.heap.size w3.heap.size (fun i => ((S i ∨ w1.heap.size ≤ i) ∧ i < w2.heap.size) ∨ w3.heap.size ≤ i) T _ v (dynXs l) (dynYs l) l _ w4 (hk.chg hC4 (hkp kb hkz hk.lt)) ⟨hkz, hk.lt⟩ hz4 (hcs.tight.chg hC4 (fun i hi => hkp i hi.1)) (hcd.tight.chg hC4 (fun i hi => hkp i hi.1)) (hrow3.chg hC4 (fun i hi _ hh => hT4 i hi (hh.elim (fun h => Or.inl (Or.inl h)) Or.inr))) HH.out.ok
        hW4 (fun k hk => hk.imp And.right id) (by omega) hT4 (fun k hk => by have := HH.out.lt k hk; omega) (by rw [List.length_append, List.length_append, nb_length]; omega)).mono ?_
      rintro e w5 ⟨rfl, hW, hC⟩
      exact ⟨rfl, hW.mono (fun i h => h.elim (fun h => h.elim (fun h => h.1.imp id (fun h => by omega)) (fun h => Or.inr (by omega))) (fun h => Or.inr (by omega))),
        ((hC13.trans hc3 (fun _ h => h.elim)).trans hC4 (fun i h => h.elim (fun h => h.1.elim (fun h => Or.inl (Or.inl h)) (fun h => Or.inr (by omega))) (fun h => Or.inl (Or.inr h)))).trans hC (fun i h => h.elim (fun h => h.elim (fun h => h.1.elim (fun h => Or.inl (Or.inl h)) (fun h => Or.inr (by omega))) (fun h => Or.inr (by omega))) (fun h => Or.inl (Or.inr h)))⟩
  go_enter Tryd.func7, Tryd.ntmps7
  go_wp2_with fail
  refine HM.out.mono ?_
  rintro e w1 ⟨rfl, hc1⟩
  have HW1 := Lib.hid (HH.out.wb.chg hc1 (fun _ _ _ h => h) (fun h => h))
  have HC1 := Lib.hid hc1
  have HK0 := Lib.hid key0
  have HK1 := Lib.hid key1
  clear hc1 HM key0 key1
  cases last
  · go_wp2_with fail
    refine (writeA_calls b o S bs 4 3 w1 HW1.out (by omega) (by omega) (by omega)).mono ?_
    rintro e w2 ⟨rfl, hW2, hc2⟩
    have HY := HK0.out 4 w1 w2 HC1 hW2 hc2
    have HT := HK1.out 4 w1 w2 HC1 hW2 hc2
    clear hW2 hc2
    go_wp2_with fail
    refine HY.out.mono ?_
    rintro e w3 ⟨kb, cs, cd, ct, vt, rfl, hkz, hk, hcs, hcd, hct, hrt, hc3⟩
    have HT2 := Lib.hid (HT.out w3 kb cs cd ct vt hkz hk hcs hcd hct hrt hc3)
    clear hk hcs hcd hct hrt hc3
    go_wp2_with fail
    refine HT2.out.mono ?_
    rintro e w4 ⟨rfl, HT3⟩
    go_wp2_with fail
    refine HT3.out.mono ?_
    rintro e w5 ⟨rfl, hW, hC⟩
    have HW4 := Lib.hid hW
    have HC4 := Lib.hid hC
    clear hW hC
    go_wp2
    go_ret
    exact ⟨rfl, HW4.out, HC4.out⟩
  · go_wp2_with fail
    rw [show bits .or .u64 4 1 = ((5 : Nat) : Int) from by decide]
    refine (writeA_calls b o S bs 5 3 w1 HW1.out (by omega) (by omega) (by omega)).mono ?_
    rintro e w2 ⟨rfl, hW2, hc2⟩
    have HY := HK0.out 5 w1 w2 HC1 hW2 hc2
    have HT := HK1.out 5 w1 w2 HC1 hW2 hc2
    clear hW2 hc2
    go_wp2_with fail
    refine HY.out.mono ?_
    rintro e w3 ⟨kb, cs, cd, ct, vt, rfl, hkz, hk, hcs, hcd, hct, hrt, hc3⟩
    have HT2 := Lib.hid (HT.out w3 kb cs cd ct vt hkz hk hcs hcd hct hrt hc3)
    clear hk hcs hcd hct hrt hc3
    go_wp2_with fail
    refine HT2.out.mono ?_
    rintro e w4 ⟨rfl, HT3⟩
    go_wp2_with fail
    refine HT3.out.mono ?_
    rintro e w5 ⟨rfl, hW, hC⟩
    have HW4 := Lib.hid hW
    have HC4 := Lib.hid hC
    clear hW hC
    go_wp2
    go_ret
    exact ⟨rfl, HW4.out, HC4.out⟩

/-- Write, of every kind. -/
theorem blockWrite_calls (b o : Nat) (S T : Nat → Prop) (kind : Nat) (last : Bool) (s : ByteArray) (v : Value) (l : List Tok) (bs : List Bool) (w : World) (hk : kind ≤ 2) (hs : s.size ≤ 65535) (H : BIn F w S T b o v l bs) :
    Calls Tryd.prog 7 #[.pointer (some ⟨b, o, none⟩), .int .i64 (kind : Int), .bool last, .string s, v] w fun e w' => e = .returned (.int .i64 0) ∧
      WB F w' (fun i => S i ∨ w.heap.size ≤ i) b o (blockB bs kind last s l) ∧ Chg (fun i => S i ∨ i = b) w w' := by
  obtain rfl | rfl | rfl : kind = 0 ∨ kind = 1 ∨ kind = 2 := by omega
  · exact blockWrite0_calls b o S T last s v l bs w hs H
  · exact blockWrite1_calls b o S T last s v l bs w hs H
  · exact blockWrite2_calls b o S T last s v l bs w hs H
end Go.Proofs.YtakoidkeaccgeaaDoor

/- block: Size, Choose. -/
namespace Go.Proofs.YtakoidkeaccgeaaDoor
open Go.RowKit Go.Shelf Go.Sort
attribute [local go_sem ↓] Go.wp_at_zero Go.wp_at_succ
variable {F : Nat → Option Value}

theorem WB.fresh {w : World} {b : Nat} {t : TypeId} (h : Blk w b [.slice none 0 0, .int .u64 0, .int .i64 0] t) : WB (fun _ => none) w (fun _ => False) b 0 [] := by
  refine ⟨[], 0, 0, ⟨.slice none 0 0, h.cell 0, h.cell 1, h.cell 2, h.frozen 0, h.frozen 1, h.frozen 2, own_nil _ _ _ _, fun k hk => by simp [Value.ownBlock] at hk, ⟨fun j hj => by rw [h.cell j]; exact List.getElem?_eq_none (by simp; omega), fun j => h.frozen j⟩⟩, by omega, by omega, by simp, by simp [byb, nb]⟩
def sizeN (kind : Nat) (s : ByteArray) (l : List Tok) : Nat := if kind = 0 then 35 + 8 * s.size else (blockB [] kind false s l).length
/-- Tokens in memory. -/
structure TIn (w : World) (T : Nat → Prop) (v : Value) (l : List Tok) : Prop where
  row : Row w T 27 3 v l.length (tks l)
  ok : ∀ t ∈ l, t.ok
  len : l.length ≤ 65535
  ord : OrdM w
  lt : ∀ k, T k → k < w.heap.size
theorem TIn.chg {w w' : World} {T S : Nat → Prop} {v : Value} {l : List Tok} (h : TIn w T v l) (hc : Chg S w w') (hS : ∀ k, T k ∨ k = 0 → ¬ S k) : TIn w' T v l :=
  ⟨h.row.chg hc (fun i hi _ => hS i (Or.inl hi)), h.ok, h.len, h.ord.chg hc (hS _ (Or.inr rfl)), fun k hk => Nat.lt_of_lt_of_le (h.lt k hk) hc.size⟩
theorem toksB_le2 (ls ld : List Nat) (l : List Tok) (h : ∀ t ∈ l, t.ok) : (toksB ls ld l l.length).length ≤ 48 * l.length := toksB_le ls ld l h l.length (Nat.le_refl _)
theorem byb_len (l : List Nat) : (byb l).length = 8 * l.length := byb_length l
theorem blockB_le (bs : List Bool) (kind : Nat) (last : Bool) (s : ByteArray) (l : List Tok) (hs : s.size ≤ 65535) (hl : l.length ≤ 65535) (h : ∀ t ∈ l, t.ok) : (blockB bs kind last s l).length ≤ bs.length + 4000000 := by
  have D := dyn_ok l
  unfold blockB
  split
  · have h1 := algn_le (bs ++ nb 3 (if last then 1 else 0))
    rw [List.length_append, nb_length] at h1
    rw [List.length_append, byb_length, List.length_append, List.length_append, putN_length, putN_length, sby_length]
    omega
  · have h1 := toksB_le2 fixL fixD l h
    have h2 := cword_le fixL 256
    rw [List.length_append, List.length_append, List.length_append, nb_length]
    omega
  · have h1 := toksB_le2 (dynXs l) (dynYs l) l h
    have h2 := cword_le (dynXs l) 256
    have h3 := headB_le (dynA l) (dynB l) (dynC l) (dynZ l) (dynT l) D.c2 D.okT D.lenT
    rw [List.length_append, List.length_append, List.length_append, List.length_append, nb_length]
    omega
set_option maxHeartbeats 3200000 in
set_option maxRecDepth 100000 in
theorem size_calls (kind : Nat) (s : ByteArray) (T : Nat → Prop) (v : Value) (l : List Tok) (w : World) (hk : kind ≤ 2) (hs : s.size ≤ 65535) (H : TIn w T v l) :
    Calls Tryd.prog 18 #[.int .i64 (kind : Int), .string s, v] w fun e w' => e = .returned (.tuple #[.int .i64 (sizeN kind s l : Int), .bool true]) ∧ Chg (fun _ => False) w w' := by
  have HH := Lib.hid H
  by_cases hk0 : kind = 0
  · subst hk0
    have HM := Lib.hid (may_calls 0 s T v l w (by omega) hs H.row H.ok H.len)
    clear H
    go_enter Tryd.func18, Tryd.ntmps18
    go_wp2_with fail
    refine HM.out.mono ?_
    rintro e w1 ⟨rfl, hc1⟩
    have HC1 := Lib.hid hc1
    clear hc1 HM
    go_wp2
    go_returns
    exact ⟨by simp [sizeN], HC1.out⟩
  · have hkb : ((kind : Int) == 0) = false := by simp; omega
    have hsz : sizeN kind s l = (blockB [] kind false s l).length := if_neg hk0
    have HSZ := Lib.hid hsz
    have hbk := Blk.new w #[.slice none 0 0, .int .u64 0, .int .i64 0] 30
    have hal : Chg (fun _ => False) w (w.alloc (.cells #[.slice none 0 0, .int .u64 0, .int .i64 0] 30)) := (Chg.refl _ _).alloc _
    have H1 := H.chg hal (fun _ _ h => h)
    have hof := H.ord.lt
    have HW := Lib.hid (blockWrite_calls w.heap.size 0 (fun _ => False) T kind false s v l [] (w.alloc (.cells #[.slice none 0 0, .int .u64 0, .int .i64 0] 30)) hk hs ⟨H1.row, H1.ok, H1.len, H1.ord, WB.fresh hbk, by
      rintro k (hk | rfl) (h | h)
      · exact h
      · have := H.lt k hk; omega
      · exact h
      · omega, H1.lt, by simp⟩)
    have HAL := Lib.hid hal
    have hbb := blockB_le [] kind false s l hs H.len H.ok
    clear H H1 hbk hal hsz
    go_enter Tryd.func18, Tryd.ntmps18
    go_wp2_with fail
    refine HW.out.mono ?_
    rintro e w1 ⟨rfl, hW, hc⟩
    have HL := Lib.hid (len_calls w.heap.size 0 _ _ w1 hW (by simp at hbb; omega))
    have HC := Lib.hid (HAL.out.trans hc (fun i hi => Or.inr (hi.elim (fun h => h.elim) (fun h => by omega))))
    clear hW hc hbb
    go_wp2_with fail
    refine HL.out.mono ?_
    rintro e w2 ⟨rfl, m, rfl⟩
    go_wp2
    go_returns
    rw [HSZ.out]
    exact ⟨rfl, HC.out.drewN m⟩
/-- The least size, and its kind: one more kind. -/
def chS (n k : Nat) (p : Nat × Nat) : Nat × Nat := if k = 0 then (n, 0) else if n < p.1 then (n, k) else p
def chK (s : ByteArray) (l : List Tok) : Nat → Nat × Nat
  | 0 => (0, 0)
  | k + 1 => chS (sizeN k s l) k (chK s l k)
def chooseN (s : ByteArray) (l : List Tok) : Nat := (chK s l 3).2
theorem sizeN_le (kind : Nat) (s : ByteArray) (l : List Tok) (hs : s.size ≤ 65535) (hl : l.length ≤ 65535) (h : ∀ t ∈ l, t.ok) : sizeN kind s l ≤ 4000000 := by
  unfold sizeN
  split
  · omega
  · have := blockB_le [] kind false s l hs hl h
    simpa using this
theorem chK_le (s : ByteArray) (l : List Tok) (hs : s.size ≤ 65535) (hl : l.length ≤ 65535) (h : ∀ t ∈ l, t.ok) : ∀ k, k ≤ 3 → (chK s l k).1 ≤ 4000007 ∧ (chK s l k).2 ≤ 2
  | 0, _ => by simp [chK]
  | k + 1, hk => by
    have ih := chK_le s l hs hl h k (by omega)
    have hz := sizeN_le k s l hs hl h
    rw [chK]
    unfold chS
    split
    · exact ⟨by dsimp only; omega, by dsimp only; omega⟩
    · split
      · exact ⟨by dsimp only; omega, by dsimp only; omega⟩
      · exact ih
set_option maxHeartbeats 3200000 in
set_option maxRecDepth 100000 in
theorem choose_calls (s : ByteArray) (T : Nat → Prop) (v : Value) (l : List Tok) (w : World) (hs : s.size ≤ 65535) (H : TIn w T v l) :
    Calls Tryd.prog 19 #[.string s, v] w fun e w' => e = .returned (.int .i64 (chooseN s l : Int)) ∧ Chg (fun _ => False) w w' := by
  have HH := Lib.hid H
  clear H
  go_enter Tryd.func19, Tryd.ntmps19
  go_wp2
  go_loopw [5, 6, 10] (fun a c i W => ∃ k : Nat, k ≤ 3 ∧ i = .int .i64 (k : Int) ∧ a = .int .i64 ((chK s l k).1 : Int) ∧ c = .int .i64 ((chK s l k).2 : Int) ∧ Hid (Chg (fun _ => False) w W)) (fun _ _ i _ => 3 - (intOf i).toNat)
  case atStart => exact ⟨0, by omega, rfl, rfl, rfl, Chg.refl _ _⟩
  case round =>
    obtain ⟨k, hk, rfl, rfl, rfl, HC⟩ := hrel
    by_cases hk3 : k < 3
    · have hk3' : (k : Int) < 3 := by omega
      have HZ := Lib.hid (size_calls k s T v l wr (by omega) hs (HH.out.chg HC.out (fun _ _ h => h)))
      have hst : chK s l (k + 1) = if k = 0 then (sizeN k s l, 0) else if sizeN k s l < (chK s l k).1 then (sizeN k s l, k) else chK s l k := rfl
      have hle := sizeN_le k s l hs HH.out.len HH.out.ok
      have hc := chK_le s l hs HH.out.len HH.out.ok k hk
      have HST := Lib.hid hst
      generalize sizeN k s l = n at *
      generalize chK s l k = p at *
      obtain ⟨p1, p2⟩ := p
      dsimp only at hc HST
      dsimp only
      clear hst
      go_wp2_with fail
      refine HZ.out.mono ?_
      rintro e w5 ⟨rfl, hc5⟩
      have HC5 := Lib.hid (HC.out.trans hc5 (fun _ h => h.elim))
      clear hc5 HZ
      by_cases hk0 : k = 0
      · subst hk0
        have hlt : (n : Int) < (n : Int) + 7 := by omega
        go_wp2
        go_roundw
        case rel => exact ⟨1, by omega, by go_num, by rw [HST.out]; simp, by rw [HST.out]; simp, HC5⟩
        case measure => simp [intOf]
      · have hk0' : ((k : Int) == 0) = false := by simp; omega
        by_cases hlt : n < p1
        · have hlt' : (n : Int) < (p1 : Int) := by omega
          go_wp2
          go_roundw
          case rel => exact ⟨k + 1, by omega, by go_num, by rw [HST.out, if_neg hk0, if_pos hlt], by rw [HST.out, if_neg hk0, if_pos hlt], HC5⟩
          case measure => simp [intOf]; omega
        · have hlt' : ¬ (n : Int) < (p1 : Int) := by omega
          go_wp2
          go_roundw
          case rel => exact ⟨k + 1, by omega, by go_num, by rw [HST.out, if_neg hk0, if_neg hlt], by rw [HST.out, if_neg hk0, if_neg hlt], HC5⟩
          case measure => simp [intOf]; omega
    · obtain rfl : k = 3 := by omega
      go_wp2
      go_ret
      exact ⟨rfl, HC.out⟩
end Go.Proofs.YtakoidkeaccgeaaDoor
