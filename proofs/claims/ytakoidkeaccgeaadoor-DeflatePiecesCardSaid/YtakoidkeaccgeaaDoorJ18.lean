/- match: the finder in memory; hash. -/
import Derived.Test.YtakoidkeaccgeaaDoorJ12
import Derived.Test.YtakoidkeaccgeaaDoorJ13
import Derived.Test.YtakoidkeaccgeaaDoorJ4
import Derived.Maps.OwnOps
import Derived.Maps.Views
namespace Go.Proofs.YtakoidkeaccgeaaDoor
open Go.RowKit Go.Shelf Go.Sort

theorem bits_xor (k : IntKind) (j : Nat) (hj : j ≤ k.bits) (hk : ∀ n : Int, 0 ≤ n → n < 2 ^ j → k.wrap n = n) (a b : Nat) (ha : a < 2 ^ j) (hb : b < 2 ^ j) :
    bits .xor k a b = ((a ^^^ b : Nat) : Int) := by
  have hp : 2 ^ j ≤ 2 ^ k.bits := Nat.pow_le_pow_right (by decide) hj
  have ha' : a % 2 ^ k.bits = a := Nat.mod_eq_of_lt (Nat.lt_of_lt_of_le ha hp)
  have hb' : b % 2 ^ k.bits = b := Nat.mod_eq_of_lt (Nat.lt_of_lt_of_le hb hp)
  have cast : ∀ n : Nat, n < 2 ^ j → ((n : Nat) : Int) < 2 ^ j := fun n h => by exact_mod_cast h
  simp only [bits, BitVec.ofInt_natCast, BitVec.toNat_xor, BitVec.toNat_ofNat, ha', hb']
  exact hk _ (Int.natCast_nonneg _) (cast _ (Nat.xor_lt_two_pow ha hb))
/-- The hash of three bytes. -/
def hash3 (a b c : Nat) : Nat := (a * 1024 ^^^ b * 32 ^^^ c) &&& 32767
theorem hash3_lt (a b c : Nat) : hash3 a b c < 32768 := by
  unfold hash3
  exact Nat.and_lt_two_pow (n := 15) _ (by decide)
theorem hash_val (a b c : Nat) (ha : a < 256) (hb : b < 256) (hc : c < 256) :
    bits .and .i64 (bits .xor .i64 (bits .xor .i64 ((a : Int) * 1024) ((b : Int) * 32)) (c : Int)) 32767 = (hash3 a b c : Int) := by
  have hw : ∀ n : Int, 0 ≤ n → n < 2 ^ 32 → IntKind.i64.wrap n = n := fun n h0 h1 => IntWalk.i64_in _ (by omega)
  have e1 : (a : Int) * 1024 = ((a * 1024 : Nat) : Int) := by omega
  have e2 : (b : Int) * 32 = ((b * 32 : Nat) : Int) := by omega
  rw [e1, e2, bits_xor .i64 32 (by decide) hw _ _ (by omega) (by omega), bits_xor .i64 32 (by decide) hw _ _ (Nat.xor_lt_two_pow (by omega) (by omega)) (by omega)]
  have e3 : (32767 : Int) = ((32767 : Nat) : Int) := rfl
  rw [e3, (bits_nat .i64 32 (by decide) hw _ 32767 (Nat.xor_lt_two_pow (Nat.xor_lt_two_pow (by omega) (by omega)) (by omega)) (by decide)).1]
  rfl
theorem hash_val2 (a b c : Nat) (ha : a < 256) (hb : b < 256) (hc : c < 256) :
    bits .and .i64 (bits .xor .i64 (bits .xor .i64 (wrap64 (wrap64 (a : Int) * 1024)) (wrap64 (wrap64 (b : Int) * 32))) (wrap64 (c : Int))) 32767 = (hash3 a b c : Int) := by
  have e1 : wrap64 (a : Int) = a := by unfold wrap64; omega
  have e2 : wrap64 (b : Int) = b := by unfold wrap64; omega
  have e3 : wrap64 (c : Int) = c := by unfold wrap64; omega
  have e4 : wrap64 ((a : Int) * 1024) = a * 1024 := by unfold wrap64; omega
  have e5 : wrap64 ((b : Int) * 32) = b * 32 := by unfold wrap64; omega
  rw [e1, e2, e3, e4, e5]
  exact hash_val a b c ha hb hc
/-- The hash at a place of a text. -/
def hashN (t : List Nat) (i : Nat) : Nat := hash3 (gN t i) (gN t (i + 1)) (gN t (i + 2))

/-- A map of ints in memory: what it gives at each number; it has at most n entries. -/
def MapI (w : World) (mb n : Nat) (hd : Nat → Nat) : Prop :=
  ∃ D : DataW Unit, w.ownsMap Tryd.prog 3 (plainElem Tryd.prog 3) mb n D ∧ Go.Maps.IsMap D ∧ ∀ h : Nat, h < 32768 → D.atKey (.int .i64 (h : Int)) (.lit (.int .i64 0)) = .lit (.int .i64 (hd h : Int))
theorem lawInt : Go.Maps.Keyed Tryd.prog 3 := Go.Maps.int_keyed Tryd.underlying3
theorem zeroInt (w : World) : (zeroValue 3).run Tryd.prog w = .ok (.int .i64 0) w := by kernel_rfl
theorem MapI.chg {w w' : World} {T : Nat → Prop} {mb n : Nat} {hd : Nat → Nat} (h : MapI w mb n hd) (hc : Chg T w w') (hT : ¬ T mb) : MapI w' mb n hd := by
  obtain ⟨D, ⟨es, clock, hb, r⟩, h2⟩ := h
  exact ⟨D, ⟨es, clock, hc.blk hb hT, r⟩, h2⟩
theorem MapI.lt {w : World} {mb n : Nat} {hd : Nat → Nat} (h : MapI w mb n hd) : mb < w.heap.size := by
  obtain ⟨D, h, _⟩ := h
  exact h.lt
theorem MapI.more {w : World} {mb n : Nat} {hd : Nat → Nat} (h : MapI w mb n hd) (m : Nat) (hm : n ≤ m) : MapI w mb m hd := by
  obtain ⟨D, h, r⟩ := h
  exact ⟨D, h.mono hm, r⟩
theorem wf_small (a : Nat) (h : a < 9223372036854775808) : (Lit.int .i64 (a : Int)).wf = true := WalkArith.wf_i64 (by omega)
set_option maxRecDepth 100000 in
theorem MapI.look {w : World} {mb n : Nat} {hd : Nat → Nat} (h : MapI w mb n hd) (x : Nat) (hx : x < 32768) :
    (Instr.lookup 148 (.map (some mb)) (.int .i64 (x : Int)) false).run Tryd.prog w = .ok (.int .i64 (hd x : Int)) w := by
  obtain ⟨D, ho, _, hat⟩ := h
  obtain ⟨c, hrun, hc, _⟩ := ho.lookup_int lawInt Tryd.underlying148 Tryd.underlying3 (zeroInt w) (Go.Maps.keyOf_int_mk Tryd.underlying3 (wf_small x (by omega)))
  rw [hat x hx] at hc
  injection hc with hc
  injection hc with _ hc
  rw [hrun, hc]
def updF (hd : Nat → Nat) (x y : Nat) : Nat → Nat := fun h => if h = x then y else hd h
set_option maxRecDepth 100000 in
theorem MapI.store {w : World} {mb n : Nat} {hd : Nat → Nat} (h : MapI w mb n hd) (x y : Nat) (hx : x < 32768) (hy : y < 9223372036854775808) (hn : n < maxLen) :
    ∃ w', (Instr.mapUpdate 148 (.map (some mb)) (.int .i64 (x : Int)) (.int .i64 (y : Int))).run Tryd.prog w = .ok () w' ∧ MapI w' mb (n + 1) (updF hd x y) ∧ Chg (fun i => i = mb) w w' := by
  obtain ⟨D, ho, hm, hat⟩ := h
  obtain ⟨w', hrun, ho', hg⟩ := ho.update lawInt Tryd.underlying148 hn (Go.Maps.keyOf_int_mk Tryd.underlying3 (wf_small x (by omega))) (plainElem_int Tryd.underlying3 (wf_small y hy))
  refine ⟨w', hrun, ⟨_, ho', hm.put _ _, fun h hh => ?_⟩, (Chg.of_grown hg).mono (fun i hi => by injection hi with hi; exact hi.symm)⟩
  unfold updF
  by_cases e : h = x
  · subst e
    rw [if_pos rfl, Go.Maps.atKey_put_same (k := .int .i64 (h : Int)) hm trivial]
  · rw [if_neg e, Go.Maps.atKey_put_other (fun h2 => by injection h2 with _ h2; omega), hat h hh]

/-- The cells of a finder. -/
def fnC (t : ByteArray) (a mb : Nat) (pv : Value) (d : Nat) : List Value := [.string t, .int .i64 (a : Int), .map (some mb), pv, .int .i64 (d : Int)]
/-- A finder at fb, its map at mb, its row at pg. -/
structure FM (w : World) (fb mb pg : Nat) (t : ByteArray) (a d n : Nat) (hd : Nat → Nat) (pv : List Nat) : Prop where
  blk : Blk w fb (fnC t a mb (.slice (some ⟨pg, 0, none⟩) t.size t.size) d) 150
  map : MapI w mb n hd
  row : w.ownsRow 0 3 1 (.slice (some ⟨pg, 0, none⟩) t.size t.size) t.size (nis pv)
  ne1 : fb ≠ mb
  ne2 : fb ≠ pg
  ne3 : mb ≠ pg
  hn : n ≤ t.size
  hhd : ∀ h, hd h ≤ n
  hpv : ∀ i, gN pv i ≤ n
  ht : t.size ≤ 100000000
theorem FM.chg {w w' : World} {T : Nat → Prop} {fb mb pg : Nat} {t : ByteArray} {a d n : Nat} {hd : Nat → Nat} {pv : List Nat} (h : FM w fb mb pg t a d n hd pv) (hc : Chg T w w') (h1 : ¬ T fb) (h2 : ¬ T mb) (h3 : ¬ T pg) : FM w' fb mb pg t a d n hd pv :=
  ⟨h.blk.chg hc h1, h.map.chg hc h2, hc.own h.row (fun k hk => by simp [Value.ownBlock] at hk; subst hk; exact h3), h.ne1, h.ne2, h.ne3, h.hn, h.hhd, h.hpv, h.ht⟩
theorem FM.drew {w : World} {fb mb pg : Nat} {t : ByteArray} {a d n : Nat} {hd : Nat → Nat} {pv : List Nat} (h : FM w fb mb pg t a d n hd pv) : FM w.drew fb mb pg t a d n hd pv :=
  h.chg (T := fun _ => False) (Chg.refl _ _).drew (fun h => h) (fun h => h) (fun h => h)
theorem FM.len {w : World} {fb mb pg : Nat} {t : ByteArray} {a d n : Nat} {hd : Nat → Nat} {pv : List Nat} (h : FM w fb mb pg t a d n hd pv) : pv.length = t.size := by
  have := h.row.1
  rw [nis_length, Nat.mul_one] at this
  exact this
theorem sby_at (t : ByteArray) (i : Nat) (h : i < t.size) : (t[i]).toNat = gN (sby t) i := by
  have hl : i < (sby t).length := by rw [sby_length]; exact h
  rw [← gN_eq _ i hl]
  simp only [sby, List.getElem_map]
  rfl
set_option maxHeartbeats 3200000 in
set_option maxRecDepth 100000 in
theorem hash_calls (fb : Nat) (t : ByteArray) (i : Nat) (w : World) (h0 : w.cell? ⟨fb, 0, none⟩ = some (.string t)) (hi : i + 3 ≤ t.size) (ht : t.size ≤ 100000000) :
    Calls Tryd.prog 98 #[.pointer (some ⟨fb, 0, none⟩), .int .i64 (i : Int)] w fun e w' => e = .returned (.int .i64 (hashN (sby t) i : Int)) ∧ ∃ m, w' = w.drewN m := by
  have b0 : (i : Int) < (t.size : Int) := by omega
  have b1 : (i : Int) + 1 < (t.size : Int) := by omega
  have b2 : (i : Int) + 2 < (t.size : Int) := by omega
  have p0 : (0 : Int) ≤ (i : Int) := by omega
  have p1 : (0 : Int) ≤ (i : Int) + 1 := by omega
  have p2 : (0 : Int) ≤ (i : Int) + 2 := by omega
  have w1 : IntKind.i64.wrap ((i : Int) + 1) = (i : Int) + 1 := IntWalk.i64_in _ (by omega)
  have w2 : IntKind.i64.wrap ((i : Int) + 2) = (i : Int) + 2 := IntWalk.i64_in _ (by omega)
  have n1 : ((i : Int) + 1).toNat = i + 1 := by omega
  have n2 : ((i : Int) + 2).toNat = i + 2 := by omega
  go_enter Tryd.func98, Tryd.ntmps98
  go_wp2
  go_quiet (fail)
  go_wp2
  go_ret
  refine ⟨ret_int ?_, _, rfl⟩
  rw [hash_val2 _ _ _ (t[i]).toNat_lt (t[i + 1]).toNat_lt (t[i + 2]).toNat_lt, sby_at t i (by omega), sby_at t (i + 1) (by omega), sby_at t (i + 2) (by omega)]
  rfl

/-- A place is entered. -/
def enterN (t : List Nat) (st : (Nat → Nat) × List Nat) (i : Nat) : (Nat → Nat) × List Nat :=
  if i + 3 ≤ t.length then (updF st.1 (hashN t i) (i + 1), st.2.set i (st.1 (hashN t i))) else st
theorem hashN_lt (t : List Nat) (i : Nat) : hashN t i < 32768 := hash3_lt _ _ _
set_option maxHeartbeats 3200000 in
set_option maxRecDepth 100000 in
theorem enter_calls (fb mb pg : Nat) (t : ByteArray) (a d n : Nat) (hd : Nat → Nat) (pv : List Nat) (i : Nat) (w : World) (H : FM w fb mb pg t a d n hd pv) (hi : i < t.size) (hn : n ≤ i) :
    Calls Tryd.prog 92 #[.pointer (some ⟨fb, 0, none⟩), .int .i64 (i : Int)] w fun e w' => e = .returned (.tuple #[]) ∧
      FM w' fb mb pg t a d (i + 1) (enterN (sby t) (hd, pv) i).1 (enterN (sby t) (hd, pv) i).2 ∧ Chg (fun k => k = mb ∨ k = pg) w w' := by
  have k0 : w.cell? ⟨fb, 0, none⟩ = some (.string t) := H.blk.cell 0
  have k2 : w.cell? ⟨fb, 2, none⟩ = some (.map (some mb)) := H.blk.cell 2
  have k3 : w.cell? ⟨fb, 3, none⟩ = some (.slice (some ⟨pg, 0, none⟩) t.size t.size) := H.blk.cell 3
  have ht := H.ht
  by_cases h3 : i + 3 ≤ t.size
  · have hgt : ¬ ((t.size : Int) < (i : Int) + 3) := by omega
    have hil : (i : Int) < (t.size : Int) := by omega
    have HH := Lib.hid H
    have HHS := Lib.hid (hash_calls fb t i w k0 h3 ht)
    have hx := hashN_lt (sby t) i
    have hst : enterN (sby t) (hd, pv) i = (updF hd (hashN (sby t) i) (i + 1), pv.set i (hd (hashN (sby t) i))) := if_pos (by rw [sby_length]; exact h3)
    have HST := Lib.hid hst
    have hlp := H.len
    have HLP := Lib.hid hlp
    clear H hst hlp
    generalize hashN (sby t) i = x at *
    go_enter Tryd.func92, Tryd.ntmps92
    go_wp2_with fail
    refine HHS.out.mono ?_
    rintro e w1 ⟨rfl, m, rfl⟩
    have hlk : (Instr.lookup 148 (.map (some mb)) (.int .i64 (x : Int)) false).run Tryd.prog (w.drewN (m + 1)) = .ok (.int .i64 (hd x : Int)) (w.drewN (m + 1)) := (HH.out.map.chg (T := fun _ => False) ((Chg.refl _ w).drewN (m + 1)) (fun h => h)).look x hx
    have hcx := (HH.out.row.cellAt i (by omega)).trans (nis_at pv i (by rw [HLP.out]; exact hi))
    have hfx := HH.out.row.frozenAt i
    go_wp2_with fail
    go_region
    have hx1 : Chg (fun k => k = pg) w ((w.drewN (m + 1)).setCell ⟨pg, i, none⟩ (.int .i64 (hd x : Int))) := ((Chg.refl (fun k => k = pg) w).drewN (m + 1)).setCell (p := ⟨pg, i, none⟩) (Or.inl rfl) _
    have hB1 := HH.out.blk.chg hx1 HH.out.ne2
    have hM1 := HH.out.map.chg hx1 HH.out.ne3
    have hr1 := (((Chg.refl (fun _ => False) w).drewN (m + 1)).own HH.out.row (fun _ _ h => h)).stored i (.int .i64 (hd x : Int))
    have hR1 := hr1.1
    rw [nis_set] at hR1
    have hk2 : ((w.drewN (m + 1)).setCell ⟨pg, i, none⟩ (.int .i64 (hd x : Int))).cell? ⟨fb, 2, none⟩ = some (.map (some mb)) := hB1.cell 2
    obtain ⟨w2, hrun, hM2, hC2⟩ := hM1.store x (i + 1) hx (by omega) (by unfold maxLen; omega)
    rw [show ((i + 1 : Nat) : Int) = (i : Int) + 1 by omega] at hrun
    have HB1 := Lib.hid hB1
    have HM2 := Lib.hid hM2
    have HC2 := Lib.hid hC2
    have HR1 := Lib.hid hR1
    have HX1 := Lib.hid hx1
    clear hx1 hB1 hM1 hr1 hR1 hM2 hC2 hcx hfx hlk
    generalize (w.drewN (m + 1)).setCell ⟨pg, i, none⟩ (.int .i64 (hd x : Int)) = w1 at *
    go_wp2
    go_end0
    have F := HH.out
    rw [HST.out]
    refine ⟨rfl, ⟨HB1.out.chg HC2.out F.ne1, HM2.out.more (i + 1) (by omega), HC2.out.own HR1.out (fun k hk he => ?_), F.ne1, F.ne2, F.ne3, by omega, fun h => ?_, fun j => ?_, F.ht⟩, (HX1.out.mono (fun k hk => Or.inr hk)).trans HC2.out (fun k hk => Or.inl (Or.inl hk))⟩
    · simp [Value.ownBlock] at hk
      exact F.ne3 (by rw [← he, hk])
    · show updF hd x (i + 1) h ≤ _
      unfold updF
      split
      · omega
      · have := F.hhd h; omega
    · show gN (pv.set i (hd x)) j ≤ _
      rw [gN_set]
      split
      · have := F.hhd x; omega
      · have := F.hpv j; omega
  · have hgt : (t.size : Int) < (i : Int) + 3 := by omega
    have HH := Lib.hid H
    have hst : enterN (sby t) (hd, pv) i = (hd, pv) := if_neg (by rw [sby_length]; exact h3)
    have HST := Lib.hid hst
    clear H hst
    go_enter Tryd.func92, Tryd.ntmps92
    go_wp2
    go_returns
    have F := HH.out
    rw [HST.out]
    exact ⟨rfl, ⟨F.blk, F.map.more (i + 1) (by omega), F.row, F.ne1, F.ne2, F.ne3, by omega, fun h => Nat.le_trans (F.hhd h) (by omega), fun j => Nat.le_trans (F.hpv j) (by omega), F.ht⟩, Chg.refl _ _⟩
end Go.Proofs.YtakoidkeaccgeaaDoor

/- match: length, longest. -/
namespace Go.Proofs.YtakoidkeaccgeaaDoor
open Go.RowKit Go.Shelf Go.Sort

/-- How far two places are alike, from n on. -/
def lenF (t : List Nat) (k i most : Nat) : Nat → Nat → Nat
  | 0, n => n
  | f + 1, n => if n < most ∧ gN t (k + n) = gN t (i + n) then lenF t k i most f (n + 1) else n
def lengthN (t : List Nat) (k i : Nat) : Nat := lenF t k i (min 258 (t.length - i)) 258 0
theorem lenF_fuel (t : List Nat) (k i most : Nat) : ∀ f g n, most ≤ n + f → most ≤ n + g → lenF t k i most f n = lenF t k i most g n
  | 0, 0, _, _, _ => rfl
  | 0, g + 1, n, h, _ => by rw [lenF, lenF, if_neg (by omega)]
  | f + 1, 0, n, _, h => by rw [lenF, lenF, if_neg (by omega)]
  | f + 1, g + 1, n, h, h' => by
    rw [lenF, lenF]
    split
    · exact lenF_fuel t k i most f g (n + 1) (by omega) (by omega)
    · rfl
theorem lenF_le (t : List Nat) (k i most : Nat) : ∀ f n, n ≤ most → n ≤ lenF t k i most f n ∧ lenF t k i most f n ≤ most
  | 0, n, h => ⟨Nat.le_refl _, h⟩
  | f + 1, n, h => by
    rw [lenF]
    split
    · have := lenF_le t k i most f (n + 1) (by omega)
      omega
    · exact ⟨Nat.le_refl _, h⟩
theorem lengthN_le (t : List Nat) (k i : Nat) : lengthN t k i ≤ 258 ∧ lengthN t k i ≤ t.length - i := by
  have := lenF_le t k i (min 258 (t.length - i)) 258 0 (by omega)
  unfold lengthN
  omega
/-- What lengthN tells. -/
theorem lenF_spec (t : List Nat) (k i most : Nat) : ∀ f n, (∀ j, j < n → gN t (k + j) = gN t (i + j)) → ∀ j, j < lenF t k i most f n → gN t (k + j) = gN t (i + j)
  | 0, n, h, j, hj => h j hj
  | f + 1, n, h, j, hj => by
    rw [lenF] at hj
    split at hj
    · rename_i hc
      refine lenF_spec t k i most f (n + 1) (fun j hj => ?_) j hj
      by_cases e : j = n
      · rw [e]; exact hc.2
      · exact h j (by omega)
    · exact h j hj
theorem lengthN_spec (t : List Nat) (k i : Nat) : ∀ j, j < lengthN t k i → gN t (k + j) = gN t (i + j) := lenF_spec t k i _ 258 0 (fun j hj => by omega)
set_option maxHeartbeats 3200000 in
set_option maxRecDepth 100000 in
theorem length_m_calls (fb : Nat) (t : ByteArray) (k i : Nat) (w : World) (h0 : w.cell? ⟨fb, 0, none⟩ = some (.string t)) (hk : k ≤ i) (hi : i ≤ t.size) (ht : t.size ≤ 100000000) :
    Calls Tryd.prog 99 #[.pointer (some ⟨fb, 0, none⟩), .int .i64 (k : Int), .int .i64 (i : Int)] w fun e w' => e = .returned (.int .i64 (lengthN (sby t) k i : Int)) ∧ ∃ m, w' = w.drewN m := by
  have hmost : min (258 : Int) ((t.size : Int) - (i : Int)) = ((min 258 (t.size - i) : Nat) : Int) := by omega
  have hln : lengthN (sby t) k i = lenF (sby t) k i (min 258 (t.size - i)) 258 0 := by unfold lengthN; rw [sby_length]
  have HM := Lib.hid hmost
  have HL := Lib.hid hln
  have hm1 : min 258 (t.size - i) ≤ 258 := by omega
  have hm2 : i + min 258 (t.size - i) ≤ t.size := by omega
  clear hmost hln
  go_enter Tryd.func99, Tryd.ntmps99
  go_wp2
  rw [HM.out]
  generalize min 258 (t.size - i) = mo at *
  clear HM
  go_loopw [8] (fun a W => ∃ n : Nat, n ≤ mo ∧ a = .int .i64 (n : Int) ∧ Hid (lengthN (sby t) k i = lenF (sby t) k i mo 258 n) ∧ ∃ m, W = w.drewN m) (fun a _ => mo - (intOf a).toNat)
  case atStart => exact ⟨0, Nat.zero_le _, rfl, HL, 0, rfl⟩
  case round =>
    clear HL
    obtain ⟨n, hn, rfl, HN, m, rfl⟩ := hrel
    have hst : lenF (sby t) k i mo 258 n = if n < mo ∧ gN (sby t) (k + n) = gN (sby t) (i + n) then lenF (sby t) k i mo 257 (n + 1) else n := rfl
    have HST := Lib.hid hst
    clear hst
    have w1 : IntKind.i64.wrap ((k : Int) + (n : Int)) = (k : Int) + (n : Int) := IntWalk.i64_in _ (by omega)
    have w2 : IntKind.i64.wrap ((i : Int) + (n : Int)) = (i : Int) + (n : Int) := IntWalk.i64_in _ (by omega)
    have n1 : ((k : Int) + (n : Int)).toNat = k + n := by omega
    have n2 : ((i : Int) + (n : Int)).toNat = i + n := by omega
    have p1 : (0 : Int) ≤ (k : Int) + (n : Int) := by omega
    have p2 : (0 : Int) ≤ (i : Int) + (n : Int) := by omega
    by_cases hlt : n < mo
    · have hd : decide ((n : Int) < (mo : Int)) = true := by simp; omega
      have hlt2 : (n : Int) < (mo : Int) := by omega
      have h1 : k + n < t.size := by omega
      have h2 : i + n < t.size := by omega
      have q1 : (k : Int) + (n : Int) < (t.size : Int) := by omega
      have q2 : (i : Int) + (n : Int) < (t.size : Int) := by omega
      have e1 := sby_at t (k + n) h1
      have e2 := sby_at t (i + n) h2
      by_cases he : gN (sby t) (k + n) = gN (sby t) (i + n)
      · have hb : (((t[k + n]'h1).toNat : Int) == ((t[i + n]'h2).toNat : Int)) = true := by rw [e1, e2, he]; simp
        have HE := Lib.hid he
        clear he e1 e2
        go_wp2_with fail
        go_quiet (fail)
        go_wp2_with fail
        go_roundw
        case rel =>
          refine ⟨n + 1, by omega, by go_num, ?_, _, rfl⟩
          show _ = _
          rw [HN.out, HST.out, if_pos ⟨hlt, HE.out⟩]
          exact lenF_fuel _ _ _ _ _ _ _ (by omega) (by omega)
        case measure => simp [intOf]; omega
      · have hb : (((t[k + n]'h1).toNat : Int) == ((t[i + n]'h2).toNat : Int)) = false := by rw [e1, e2]; simp; omega
        have HE := Lib.hid he
        clear he e1 e2
        go_wp2_with fail
        go_quiet (fail)
        go_wp2_with fail
        go_ret
        exact ⟨ret_int (by rw [HN.out, HST.out, if_neg (fun h => HE.out h.2)]), m + nq, by simp⟩
    · have hd : decide ((n : Int) < (mo : Int)) = false := by simp; omega
      go_wp2_with fail
      go_quiet (fail)
      go_wp2_with fail
      go_ret
      exact ⟨ret_int (by rw [HN.out, HST.out, if_neg (fun h => hlt h.1)]), m + nq, by simp⟩

/-- The longest match: k the next place and one, n how many were looked at; best, dist so far. -/
def lgF (t pv : List Nat) (d i : Nat) : Nat → Nat → Nat → Nat → Nat → Nat × Nat
  | 0, _, _, best, dist => (best, dist)
  | f + 1, k, n, best, dist =>
    if 0 < k ∧ n < d ∧ i - (k - 1) ≤ 32768 then
      if best < lengthN t (k - 1) i then
        if lengthN t (k - 1) i = 258 then (lengthN t (k - 1) i, i - (k - 1)) else lgF t pv d i f (gN pv (k - 1)) (n + 1) (lengthN t (k - 1) i) (i - (k - 1))
      else if best = 258 then (best, dist) else lgF t pv d i f (gN pv (k - 1)) (n + 1) best dist
    else (best, dist)
theorem lgF_fuel (t pv : List Nat) (d i : Nat) : ∀ f g k n best dist, d ≤ n + f → d ≤ n + g → lgF t pv d i f k n best dist = lgF t pv d i g k n best dist
  | 0, 0, _, _, _, _, _, _ => rfl
  | 0, g + 1, k, n, best, dist, h, _ => by rw [lgF, lgF, if_neg (by omega)]
  | f + 1, 0, k, n, best, dist, _, h => by rw [lgF, lgF, if_neg (by omega)]
  | f + 1, g + 1, k, n, best, dist, h, h' => by
    rw [lgF, lgF, lgF_fuel t pv d i f g _ (n + 1) _ _ (by omega) (by omega), lgF_fuel t pv d i f g _ (n + 1) _ _ (by omega) (by omega)]
def longestN (t : List Nat) (d : Nat) (st : (Nat → Nat) × List Nat) (i : Nat) : Nat × Nat :=
  if i + 3 ≤ t.length then
    if (lgF t st.2 d i d (st.1 (hashN t i)) 0 0 0).1 < 3 then (0, 0) else lgF t st.2 d i d (st.1 (hashN t i)) 0 0 0
  else (0, 0)
theorem lgF_ok (t pv : List Nat) (d i : Nat) (hpv : ∀ j, gN pv j ≤ i) : ∀ f k n best dist, k ≤ i → best ≤ 258 → best ≤ t.length - i → (0 < best → 1 ≤ dist ∧ dist ≤ i ∧ dist ≤ 32768 ∧ ∀ j, j < best → gN t (i - dist + j) = gN t (i + j)) →
    (lgF t pv d i f k n best dist).1 ≤ 258 ∧ (lgF t pv d i f k n best dist).1 ≤ t.length - i ∧
    (0 < (lgF t pv d i f k n best dist).1 → 1 ≤ (lgF t pv d i f k n best dist).2 ∧ (lgF t pv d i f k n best dist).2 ≤ i ∧ (lgF t pv d i f k n best dist).2 ≤ 32768 ∧ ∀ j, j < (lgF t pv d i f k n best dist).1 → gN t (i - (lgF t pv d i f k n best dist).2 + j) = gN t (i + j))
  | 0, k, n, best, dist, hk, hb, hb2, h => ⟨hb, hb2, h⟩
  | f + 1, k, n, best, dist, hk, hb, hb2, h => by
    have hl := lengthN_le t (k - 1) i
    have hs := lengthN_spec t (k - 1) i
    rw [lgF]
    split
    · rename_i hc
      have hnew : 1 ≤ i - (k - 1) ∧ i - (k - 1) ≤ i ∧ i - (k - 1) ≤ 32768 ∧ ∀ j, j < lengthN t (k - 1) i → gN t (i - (i - (k - 1)) + j) = gN t (i + j) :=
        ⟨by omega, by omega, by omega, fun j hj => by rw [show i - (i - (k - 1)) = k - 1 by omega]; exact hs j hj⟩
      split
      · split
        · exact ⟨hl.1, hl.2, fun _ => hnew⟩
        · exact lgF_ok t pv d i hpv f _ (n + 1) _ _ (hpv _) hl.1 hl.2 (fun _ => hnew)
      · split
        · exact ⟨hb, hb2, h⟩
        · exact lgF_ok t pv d i hpv f _ (n + 1) _ _ (hpv _) hb hb2 h
    · exact ⟨hb, hb2, h⟩
end Go.Proofs.YtakoidkeaccgeaaDoor

/- match: longest. -/
namespace Go.Proofs.YtakoidkeaccgeaaDoor
open Go.RowKit Go.Shelf Go.Sort

theorem quiet_more {P : Program} {f : FuncId} {args : Array Value} {w : World} {n : Nat} {v : Value}
    (h : Calls P f args (w.drewN n) fun e w' => e = .returned v ∧ ∃ m, w' = (w.drewN n).drewN m) : Calls P f args (w.drewN n) fun e w'' => e = .returned v ∧ ∃ m, w'' = w.drewN m := Calls.quiet_of h
set_option maxHeartbeats 6400000 in
set_option maxRecDepth 100000 in
theorem longest_calls (fb mb pg : Nat) (t : ByteArray) (a d en : Nat) (hd : Nat → Nat) (pv : List Nat) (i : Nat) (w : World) (H : FM w fb mb pg t a d en hd pv) (hi : i ≤ t.size) (hen : en ≤ i) (hd2 : d ≤ 1073741824) :
    Calls Tryd.prog 93 #[.pointer (some ⟨fb, 0, none⟩), .int .i64 (i : Int)] w fun e w' => e = .returned (.tuple #[.int .i64 ((longestN (sby t) d (hd, pv) i).1 : Int), .int .i64 ((longestN (sby t) d (hd, pv) i).2 : Int)]) ∧ ∃ m, w' = w.drewN m := by
  have k0 : w.cell? ⟨fb, 0, none⟩ = some (.string t) := H.blk.cell 0
  have k2 : w.cell? ⟨fb, 2, none⟩ = some (.map (some mb)) := H.blk.cell 2
  have k3 : w.cell? ⟨fb, 3, none⟩ = some (.slice (some ⟨pg, 0, none⟩) t.size t.size) := H.blk.cell 3
  have k4 : w.cell? ⟨fb, 4, none⟩ = some (.int .i64 (d : Int)) := H.blk.cell 4
  have ht := H.ht
  by_cases h3 : i + 3 ≤ t.size
  · have hgt : ¬ ((t.size : Int) < (i : Int) + 3) := by omega
    have HH := Lib.hid H
    have HHS := Lib.hid (fun W (h0 : W.cell? ⟨fb, 0, none⟩ = some (.string t)) => hash_calls fb t i W h0 h3 ht)
    have hx := hashN_lt (sby t) i
    have hlg : longestN (sby t) d (hd, pv) i = if (lgF (sby t) pv d i d (hd (hashN (sby t) i)) 0 0 0).1 < 3 then (0, 0) else lgF (sby t) pv d i d (hd (hashN (sby t) i)) 0 0 0 := if_pos (by rw [sby_length]; exact h3)
    have HLG := Lib.hid hlg
    have hlp := H.len
    have HLP := Lib.hid hlp
    clear H hlg hlp
    generalize hashN (sby t) i = x at *
    have hhx : hd x ≤ i := Nat.le_trans (HH.out.hhd x) hen
    have hlk : ∀ m, (Instr.lookup 148 (.map (some mb)) (.int .i64 (x : Int)) false).run Tryd.prog (w.drewN m) = .ok (.int .i64 (hd x : Int)) (w.drewN m) := fun m => (HH.out.map.chg (T := fun _ => False) ((Chg.refl _ w).drewN m) (fun h => h)).look x hx
    go_enter Tryd.func93, Tryd.ntmps93
    go_wp2_with fail
    go_quiet ((go_at_call 98; exact quiet_more (HHS.out _ k0)))
    clear hlk
    go_wp2_with fail
    have HW := Lib.hid (show ∃ m, w.drewN nq = w.drewN m from ⟨nq, rfl⟩)
    go_loopw [6, 7, 8, 9] (fun bb dd kk nn W => ∃ best dist k n : Nat, bb = .int .i64 (best : Int) ∧ dd = .int .i64 (dist : Int) ∧ kk = .int .i64 (k : Int) ∧ nn = .int .i64 (n : Int) ∧ k ≤ i ∧ n ≤ d ∧ best ≤ 258 ∧ Hid (lgF (sby t) pv d i d (hd x) 0 0 0 = lgF (sby t) pv d i d k n best dist) ∧ ∃ m, W = w.drewN m) (fun _ _ _ nn _ => d - (intOf nn).toNat)
    case atStart => exact ⟨0, 0, hd x, 0, rfl, rfl, rfl, rfl, hhx, Nat.zero_le _, by omega, rfl, HW.out⟩
    case round =>
      clear HW
      obtain ⟨best, dist, k, n, rfl, rfl, rfl, rfl, hk, hn, hb, HF, m, rfl⟩ := hrel
      have hcell := HH.out.row
      by_cases hc : 0 < k ∧ n < d ∧ i - (k - 1) ≤ 32768
      · obtain ⟨hk0, hnd, hwin⟩ := hc
        obtain ⟨k, rfl⟩ : ∃ k', k = k' + 1 := ⟨k - 1, by omega⟩
        simp only [Nat.add_sub_cancel] at hwin
        have t1 : decide ((0 : Int) < (k : Int) + 1) = true := by rw [decide_eq_true_iff]; omega
        have t2 : decide ((n : Int) < (d : Int)) = true := by simp; omega
        have t3 : decide ((i : Int) - (k : Int) ≤ 32768) = true := by simp; omega
        have hlk : k < t.size := by omega
        have HLN := Lib.hid (fun W (h0 : W.cell? ⟨fb, 0, none⟩ = some (.string t)) => length_m_calls fb t k i W h0 (by omega) hi ht)
        have hll := lengthN_le (sby t) k i
        have hst : lgF (sby t) pv d i d (k + 1) n best dist = if best < lengthN (sby t) k i then
            (if lengthN (sby t) k i = 258 then (lengthN (sby t) k i, i - k) else lgF (sby t) pv d i (d - 1) (gN pv k) (n + 1) (lengthN (sby t) k i) (i - k))
            else if best = 258 then (best, dist) else lgF (sby t) pv d i (d - 1) (gN pv k) (n + 1) best dist := by
          obtain ⟨d', rfl⟩ : ∃ d', d = d' + 1 := ⟨d - 1, by omega⟩
          rw [lgF, if_pos ⟨by omega, hnd, by rw [Nat.add_sub_cancel]; exact hwin⟩]
          simp only [Nat.add_sub_cancel]
        have HST := Lib.hid hst
        have hcx := (((Chg.refl (fun _ => False) w).drewN m).own HH.out.row (fun _ _ h => h) |>.cellAt k (by omega)).trans (nis_at pv k (by rw [HLP.out]; exact hlk))
        have hpk : gN pv k ≤ i := Nat.le_trans (HH.out.hpv k) hen
        clear hst hcell
        generalize lengthN (sby t) k i = g at *
        go_wp2_with fail
        refine (HLN.out (w.drewN m) k0).mono ?_
        rintro e w' ⟨rfl, m2, rfl⟩
        have hcy : (w.drewN (m + m2)).cell? ⟨pg, k, none⟩ = some (.int .i64 (gN pv k : Int)) := hcx
        by_cases hbg : best < g
        · have hbg' : (best : Int) < (g : Int) := by omega
          by_cases h258 : g = 258
          · have hg2 : ((g : Int) == 258) = true := by simp; omega
            have hg3 : ¬ (g : Int) < 3 := by omega
            have HG := Lib.hid h258
            clear h258
            go_wp2_with fail
            go_ret2
            have hr : longestN (sby t) d (hd, pv) i = (g, i - k) := by
              rw [HLG.out, HF.out, HST.out, if_pos hbg, if_pos HG.out, if_neg (by dsimp only; omega)]
            rw [hr]
            exact ⟨by rw [show (i : Int) - (k : Int) = ((i - k : Nat) : Int) by omega]; rfl, _, rfl⟩
          · have hg2 : ((g : Int) == 258) = false := by simp; omega
            have HG := Lib.hid h258
            clear h258
            go_wp2_with fail
            go_roundw
            case rel =>
              refine ⟨g, i - k, gN pv k, n + 1, rfl, by congr 1; omega, rfl, by go_num, hpk, by omega, by omega, ?_, _, rfl⟩
              show _ = _
              rw [HF.out, HST.out, if_pos hbg, if_neg HG.out]
              exact lgF_fuel _ _ _ _ _ _ _ _ _ _ (by omega) (by omega)
            case measure => simp [intOf]; omega
        · have hbg' : ¬ (best : Int) < (g : Int) := by omega
          by_cases h258 : best = 258
          · have hg2 : ((best : Int) == 258) = true := by simp; omega
            have hg3 : ¬ (best : Int) < 3 := by omega
            have HG := Lib.hid h258
            clear h258
            go_wp2_with fail
            go_ret2
            have hr : longestN (sby t) d (hd, pv) i = (best, dist) := by
              rw [HLG.out, HF.out, HST.out, if_neg hbg, if_pos HG.out, if_neg (by dsimp only; omega)]
            rw [hr]
            exact ⟨rfl, _, rfl⟩
          · have hg2 : ((best : Int) == 258) = false := by simp; omega
            have HG := Lib.hid h258
            clear h258
            go_wp2_with fail
            go_roundw
            case rel =>
              refine ⟨best, dist, gN pv k, n + 1, rfl, rfl, rfl, by go_num, hpk, by omega, by omega, ?_, _, rfl⟩
              show _ = _
              rw [HF.out, HST.out, if_neg hbg, if_neg HG.out]
              exact lgF_fuel _ _ _ _ _ _ _ _ _ _ (by omega) (by omega)
            case measure => simp [intOf]; omega
      · have hst : lgF (sby t) pv d i d k n best dist = (best, dist) := by
          cases d with
          | zero => rfl
          | succ d => rw [lgF, if_neg hc]
        have HST := Lib.hid hst
        clear hst
        have hend : ∀ (m : Nat), (best < 3 → longestN (sby t) d (hd, pv) i = (0, 0)) ∧ (¬ best < 3 → longestN (sby t) d (hd, pv) i = (best, dist)) := fun _ =>
          ⟨fun h => by rw [HLG.out, HF.out, HST.out, if_pos h], fun h => by rw [HLG.out, HF.out, HST.out, if_neg h]⟩
        have HEND := Lib.hid hend
        clear hend
        by_cases hk0 : 0 < k
        · have t1 : decide ((0 : Int) < (k : Int)) = true := by simp; omega
          by_cases hnd : n < d
          · have t2 : decide ((n : Int) < (d : Int)) = true := by simp; omega
            have t3 : decide ((i : Int) - ((k : Int) - 1) ≤ 32768) = false := by simp; omega
            by_cases hb3 : best < 3
            · have hb3' : (best : Int) < 3 := by omega
              go_wp2_with fail
              go_ret2
              rw [(HEND.out 0).1 hb3]
              exact ⟨rfl, _, rfl⟩
            · have hb3' : ¬ (best : Int) < 3 := by omega
              go_wp2_with fail
              go_ret2
              rw [(HEND.out 0).2 hb3]
              exact ⟨rfl, _, rfl⟩
          · have t2 : decide ((n : Int) < (d : Int)) = false := by simp; omega
            by_cases hb3 : best < 3
            · have hb3' : (best : Int) < 3 := by omega
              go_wp2_with fail
              go_ret2
              rw [(HEND.out 0).1 hb3]
              exact ⟨rfl, _, rfl⟩
            · have hb3' : ¬ (best : Int) < 3 := by omega
              go_wp2_with fail
              go_ret2
              rw [(HEND.out 0).2 hb3]
              exact ⟨rfl, _, rfl⟩
        · have t1 : decide ((0 : Int) < (k : Int)) = false := by simp; omega
          by_cases hb3 : best < 3
          · have hb3' : (best : Int) < 3 := by omega
            go_wp2_with fail
            go_ret2
            rw [(HEND.out 0).1 hb3]
            exact ⟨rfl, _, rfl⟩
          · have hb3' : ¬ (best : Int) < 3 := by omega
            go_wp2_with fail
            go_ret2
            rw [(HEND.out 0).2 hb3]
            exact ⟨rfl, _, rfl⟩
  · have hgt : (t.size : Int) < (i : Int) + 3 := by omega
    have hlg : longestN (sby t) d (hd, pv) i = (0, 0) := if_neg (by rw [sby_length]; exact h3)
    have HLG := Lib.hid hlg
    clear H hlg
    go_enter Tryd.func93, Tryd.ntmps93
    go_wp2
    go_ret2
    rw [HLG.out]
    exact ⟨rfl, 0, rfl⟩
end Go.Proofs.YtakoidkeaccgeaaDoor

/- match: newFinder. -/
namespace Go.Proofs.YtakoidkeaccgeaaDoor
open Go.RowKit Go.Shelf Go.Sort

/-- The last bytes of what stands ahead. -/
def cutA (a : ByteArray) : ByteArray := a.extract (a.size - 32768) a.size
theorem cutA_size (a : ByteArray) : (cutA a).size = min a.size 32768 := by
  unfold cutA; rw [ByteArray.size_extract]; omega
/-- The state when k places are entered. -/
def entersN (t : List Nat) : Nat → (Nat → Nat) × List Nat
  | 0 => (fun _ => 0, List.replicate t.length 0)
  | k + 1 => enterN t (entersN t k) k
theorem entersN_zero (t : ByteArray) : entersN (sby t) 0 = (fun _ => 0, zs t.size) := by
  unfold entersN zs
  rw [sby_length]
theorem entersN_succ (t : List Nat) (k : Nat) : entersN t (k + 1) = enterN t ((entersN t k).1, (entersN t k).2) k := rfl
theorem make_zerosB (n : Nat) (hn : n ≤ 100000000) (w : World) : (Instr.makeSlice 22 (.int .i64 (n : Int)) (.int .i64 (n : Int))).run Tryd.prog w = .ok (.slice (some ⟨w.heap.size, 0, none⟩) n n) (w.alloc (.cells (zerosA n) 3)) := by
  obtain ⟨ii, hii, hi0, hi1, hi2⟩ := info_parts infoInt
  have := run_make (P := Tryd.prog) w 22 3 ii (.int .i64 0) Tryd.underlying22 hii hi0 .i64 .i64 n n (by omega) (by omega) (by rw [hi2]; omega) (by omega)
  rw [this, hi1, Int.toNat_natCast, made_zeros]
theorem own_zerosB (w : World) (base n : Nat) (hn : n ≤ 100000000) (hb : base ≤ w.heap.size) : (w.alloc (.cells (zerosA n) 3)).ownsRow base 3 1 (.slice (some ⟨w.heap.size, 0, none⟩) n n) n (nis (zs n)) := by
  refine ⟨by rw [nis_length, zs_length, Nat.mul_one], .inr ⟨w.heap.size, n, zerosA n, rfl, hb, heap_alloc_new w _, Nat.le_refl _, by unfold maxLen; omega, ?_, ?_⟩⟩
  · rw [zerosA, List.size_toArray, nis_length, zs_length, Nat.mul_one]
  · rw [zerosA, List.take_of_length_le]
    rw [nis_length, zs_length]; omega
/-- What newFinder comes to. -/
def NewF (w : World) (a s : ByteArray) (d : Nat) (e : Ending) (w' : World) : Prop := ∃ fb mb pg, e = .returned (.pointer (some ⟨fb, 0, none⟩)) ∧ w.heap.size ≤ fb ∧ w.heap.size ≤ mb ∧ w.heap.size ≤ pg ∧
      FM w' fb mb pg (cutA a ++ s) (cutA a).size d (cutA a).size (entersN (sby (cutA a ++ s)) (cutA a).size).1 (entersN (sby (cutA a ++ s)) (cutA a).size).2 ∧ Chg (fun _ => False) w w'
set_option maxHeartbeats 3200000 in
set_option maxRecDepth 100000 in
theorem newFinder_calls (a s : ByteArray) (d : Nat) (w : World) (ha : a.size ≤ 1000000) (hs : s.size ≤ 1000000) :
    Calls Tryd.prog 79 #[.string a, .string s, .int .i64 (d : Int)] w (NewF w a s d) := by
  have hcs := cutA_size a
  have hmm := @run_makeMap Tryd.prog
  have hmax : max ((a.size : Int) - 32768) 0 = ((a.size - 32768 : Nat) : Int) := by omega
  go_enter Tryd.func79, Tryd.ntmps79
  have hmk : ∀ W : World, (Instr.makeSlice 22 (.int .i64 (((a.size - (a.size - 32768) : Nat) : Int) + (s.size : Int))) (.int .i64 (((a.size - (a.size - 32768) : Nat) : Int) + (s.size : Int)))).run Tryd.prog W = .ok (.slice (some ⟨W.heap.size, 0, none⟩) (a.size - (a.size - 32768) + s.size) (a.size - (a.size - 32768) + s.size)) (W.alloc (.cells (zerosA (a.size - (a.size - 32768) + s.size)) 3)) := fun W => by
    rw [← Int.natCast_add]
    exact make_zerosB _ (by omega) W
  go_wp2_with fail
  clear hmk hmax hmm
  have hT : (a.extract (a.size - 32768) a.size ++ s).size = a.size - (a.size - 32768) + s.size := by rw [ByteArray.size_append, ByteArray.size_extract]; omega
  have hF : FM (((w.alloc (.map #[] 0)).alloc (.cells #[.string (a.extract (a.size - 32768) a.size ++ s), .int .i64 ((a.size - (a.size - 32768) : Nat) : Int), .map (some w.heap.size), .slice (some ⟨w.heap.size + 1 + 1, 0, none⟩) (a.size - (a.size - 32768) + s.size) (a.size - (a.size - 32768) + s.size), .int .i64 (d : Int)] 150)).alloc (.cells (zerosA (a.size - (a.size - 32768) + s.size)) 3)) (w.heap.size + 1) w.heap.size (w.heap.size + 1 + 1) (a.extract (a.size - 32768) a.size ++ s) (a.size - (a.size - 32768)) d 0 (fun _ => 0) (zs (a.extract (a.size - 32768) a.size ++ s).size) := by
    refine ⟨?_, ?_, ?_, by omega, by omega, by omega, by omega, fun _ => Nat.le_refl _, fun i => by rw [gN_zs]; exact Nat.le_refl _, by omega⟩
    · rw [hT]
      have := (Blk.new (w.alloc (.map #[] 0)) #[.string (a.extract (a.size - 32768) a.size ++ s), .int .i64 ((a.size - (a.size - 32768) : Nat) : Int), .map (some w.heap.size), .slice (some ⟨w.heap.size + 1 + 1, 0, none⟩) (a.size - (a.size - 32768) + s.size) (a.size - (a.size - 32768) + s.size), .int .i64 (d : Int)] 150).alloc (.cells (zerosA (a.size - (a.size - 32768) + s.size)) 3)
      rw [World.size_alloc] at this
      exact this
    · refine ⟨.map [], ?_, Go.Maps.isMap_empty, fun h _ => rfl⟩
      exact ((World.ownsMap_made w Tryd.prog 3 _).alloc _).alloc _
    · rw [hT]
      have := own_zerosB ((w.alloc (.map #[] 0)).alloc (.cells #[.string (a.extract (a.size - 32768) a.size ++ s), .int .i64 ((a.size - (a.size - 32768) : Nat) : Int), .map (some w.heap.size), .slice (some ⟨w.heap.size + 1 + 1, 0, none⟩) (a.size - (a.size - 32768) + s.size) (a.size - (a.size - 32768) + s.size), .int .i64 (d : Int)] 150)) 0 (a.size - (a.size - 32768) + s.size) (by omega) (Nat.zero_le _)
      rw [World.size_alloc, World.size_alloc] at this
      exact this
  have hC : Chg (fun _ => False) w (((w.alloc (.map #[] 0)).alloc (.cells #[.string (a.extract (a.size - 32768) a.size ++ s), .int .i64 ((a.size - (a.size - 32768) : Nat) : Int), .map (some w.heap.size), .slice (some ⟨w.heap.size + 1 + 1, 0, none⟩) (a.size - (a.size - 32768) + s.size) (a.size - (a.size - 32768) + s.size), .int .i64 (d : Int)] 150)).alloc (.cells (zerosA (a.size - (a.size - 32768) + s.size)) 3)) := (((Chg.refl _ _).alloc _).alloc _).alloc _
  generalize hW0 : ((w.alloc (.map #[] 0)).alloc (.cells #[.string (a.extract (a.size - 32768) a.size ++ s), .int .i64 ((a.size - (a.size - 32768) : Nat) : Int), .map (some w.heap.size), .slice (some ⟨w.heap.size + 1 + 1, 0, none⟩) (a.size - (a.size - 32768) + s.size) (a.size - (a.size - 32768) + s.size), .int .i64 (d : Int)] 150)).alloc (.cells (zerosA (a.size - (a.size - 32768) + s.size)) 3) = w0 at hF hC ⊢
  clear hW0
  have hcA : cutA a = a.extract (a.size - 32768) a.size := rfl
  have hsz : (cutA a).size = a.size - (a.size - 32768) := by omega
  rw [← hcA] at hF hT
  rw [← hsz] at hF
  have HF := Lib.hid hF
  have HC := Lib.hid hC
  have HSZ := Lib.hid hsz
  have HCA := Lib.hid hcA
  have hT2 : (cutA a ++ s).size ≤ 2000000 := by omega
  have hT3 : (cutA a).size ≤ (cutA a ++ s).size := by omega
  clear hF hC hT hcA hcs hsz
  rw [← HSZ.out, ← HCA.out]
  go_loopw [35] (fun i W => ∃ k : Nat, k ≤ (cutA a).size ∧ i = .int .i64 (k : Int) ∧ Hid (FM W (w.heap.size + 1) w.heap.size (w.heap.size + 1 + 1) (cutA a ++ s) (cutA a).size d k (entersN (sby (cutA a ++ s)) k).1 (entersN (sby (cutA a ++ s)) k).2) ∧ Hid (Chg (fun _ => False) w W)) (fun i _ => (cutA a).size - (intOf i).toNat)
  case atStart =>
    refine ⟨0, Nat.zero_le _, rfl, ?_, HC⟩
    rw [entersN_zero]
    with_reducible exact HF
  case round =>
    clear HF HC
    obtain ⟨k, hk, rfl, HF, HC⟩ := hrel
    by_cases hkl : k < (cutA a).size
    · have hkl2 : (k : Int) < ((cutA a).size : Int) := by omega
      have HE := Lib.hid (enter_calls _ _ _ _ _ _ _ _ _ k wr HF.out (by omega) (Nat.le_refl _))
      go_wp2_with fail
      refine HE.out.mono ?_
      rintro e w5 ⟨rfl, hF5, hc5⟩
      have HF5 := Lib.hid hF5
      have HC5 := Lib.hid hc5
      clear hF5 hc5
      go_wp2
      go_roundw
      case rel =>
        refine ⟨k + 1, by omega, by go_num, ?_, HC.out.trans HC5.out (fun i hi => Or.inr (by omega))⟩
        rw [entersN_succ]
        exact HF5
      case measure => simp [intOf]; omega
    · have hke : k = (cutA a).size := by omega
      have hkl2 : ¬ (k : Int) < ((cutA a).size : Int) := by omega
      rw [hke] at HF
      clear hke
      go_wp2
      go_ret
      exact ⟨w.heap.size + 1, w.heap.size, w.heap.size + 1 + 1, rfl, by omega, Nat.le_refl _, by omega, HF.out, HC.out⟩
end Go.Proofs.YtakoidkeaccgeaaDoor
