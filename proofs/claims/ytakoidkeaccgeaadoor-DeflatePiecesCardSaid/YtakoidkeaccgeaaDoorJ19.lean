/- match: the finder's tokens. -/
import Derived.Test.YtakoidkeaccgeaaDoorJ18
import Derived.Maps.AppendAt
import Derived.WalkMore
import Derived.Test.YtakoidkeaccgeaaDoorJ5
namespace Go.Proofs.YtakoidkeaccgeaaDoor
open Go.RowKit Go.Shelf Go.Sort

/-- Places entered from i on. -/
def entersFrom (t : List Nat) (st : (Nat → Nat) × List Nat) (i : Nat) : Nat → (Nat → Nat) × List Nat
  | 0 => st
  | m + 1 => enterN t ((entersFrom t st i m).1, (entersFrom t st i m).2) (i + m)
/-- How long a match is taken at a place; 0: a byte. -/
def tokStep (t : List Nat) (d : Nat) (lz : Bool) (st : (Nat → Nat) × List Nat) (i : Nat) : Nat :=
  if (longestN t d st i).1 = 0 then 0
  else if lz = true ∧ (longestN t d st i).1 < 258 ∧ (longestN t d st i).1 < (longestN t d (enterN t st i) (i + 1)).1 then 0 else (longestN t d st i).1
def tokF (t : List Nat) (d : Nat) (lz : Bool) : Nat → Nat → (Nat → Nat) × List Nat → List Tok → List Tok
  | 0, _, _, out => out
  | f + 1, i, st, out =>
    if i < t.length then
      if tokStep t d lz st i = 0 then tokF t d lz f (i + 1) (enterN t st i) (out ++ [⟨gN t i, 0, 0⟩])
      else tokF t d lz f (i + tokStep t d lz st i) (entersFrom t (enterN t st i) (i + 1) (tokStep t d lz st i - 1)) (out ++ [⟨0, tokStep t d lz st i, (longestN t d st i).2⟩])
    else out
theorem tokF_fuel (t : List Nat) (d : Nat) (lz : Bool) : ∀ f g i st out, t.length ≤ i + f → t.length ≤ i + g → tokF t d lz f i st out = tokF t d lz g i st out
  | 0, 0, _, _, _, _, _ => rfl
  | 0, g + 1, i, st, out, h, _ => by rw [tokF, tokF, if_neg (by omega)]
  | f + 1, 0, i, st, out, _, h => by rw [tokF, tokF, if_neg (by omega)]
  | f + 1, g + 1, i, st, out, h, h' => by
    rw [tokF, tokF]
    split
    · split
      · exact tokF_fuel t d lz f g _ _ _ (by omega) (by omega)
      · exact tokF_fuel t d lz f g _ _ _ (by omega) (by omega)
    · rfl
def tokensN (t : List Nat) (d : Nat) (lz : Bool) (a : Nat) (st : (Nat → Nat) × List Nat) : List Tok := tokF t d lz (t.length + 1) a st []
theorem infoTok : (Tryd.prog.info? 27).map (fun i => (i.zero, i.size, i.bytes)) = some (some (.agg #[.int .u8 0, .int .i64 0, .int .i64 0]), 3, 24) := by kernel_rfl
theorem longestN_ok (t : List Nat) (d : Nat) (st : (Nat → Nat) × List Nat) (i : Nat) (h1 : ∀ h, st.1 h ≤ i) (h2 : ∀ j, gN st.2 j ≤ i) :
    (longestN t d st i).1 = 0 ∨ (3 ≤ (longestN t d st i).1 ∧ (longestN t d st i).1 ≤ 258 ∧ (longestN t d st i).1 ≤ t.length - i ∧ 1 ≤ (longestN t d st i).2 ∧ (longestN t d st i).2 ≤ i ∧ (longestN t d st i).2 ≤ 32768 ∧
      ∀ j, j < (longestN t d st i).1 → gN t (i - (longestN t d st i).2 + j) = gN t (i + j)) := by
  unfold longestN
  split
  · have h := lgF_ok t st.2 d i h2 d (st.1 (hashN t i)) 0 0 0 (h1 _) (by omega) (by omega) (fun h => by omega)
    split
    · exact Or.inl rfl
    · right
      have := h.2.2 (by omega)
      exact ⟨by omega, h.1, h.2.1, this.1, this.2.1, this.2.2.1, this.2.2.2⟩
  · exact Or.inl rfl
/-- What the finder's tokens come to. -/
def TokP (w : World) (mb pg : Nat) (L : List Tok) (e : Ending) (w' : World) : Prop := ∃ v', e = .returned v' ∧ w'.ownsRow w.heap.size 27 3 v' L.length (tks L) ∧ (∀ x ∈ L, x.ok) ∧ Chg (fun k => k = mb ∨ k = pg) w w'
set_option maxHeartbeats 6400000 in
set_option maxRecDepth 100000 in
theorem tokens_m_calls (fb mb pg : Nat) (t : ByteArray) (a d : Nat) (lz : Bool) (st : (Nat → Nat) × List Nat) (w : World) (H : FM w fb mb pg t a d a st.1 st.2) (ha : a ≤ t.size) (hd2 : d ≤ 1073741824) :
    Calls Tryd.prog 80 #[.pointer (some ⟨fb, 0, none⟩), .bool lz] w (TokP w mb pg (tokensN (sby t) d lz a st)) := by
  have k1 : w.cell? ⟨fb, 1, none⟩ = some (.int .i64 (a : Int)) := H.blk.cell 1
  have ht := H.ht
  have hfw := H.blk.lt
  have hmw := H.map.lt
  have hpw : pg < w.heap.size := own_blk_lt H.row pg rfl
  obtain ⟨it, hit, hi0, hi1, hi2⟩ := info_parts infoTok
  have HH := Lib.hid H
  have NE1 := H.ne1
  have NE2 := H.ne2
  clear H
  go_enter Tryd.func80, Tryd.ntmps80
  go_wp2
  go_step3
  go_wp2
  go_step3
  go_wp2
  go_loopw [5, 6] (fun o s6 W => ∃ (i : Nat) (st' : (Nat → Nat) × List Nat) (v : Value) (L : List Tok), s6 = .int .i64 (i : Int) ∧ o = v ∧ i ≤ t.size ∧ L.length ≤ i ∧ Hid (tokensN (sby t) d lz a st = tokF (sby t) d lz (t.size + 1) i st' L) ∧ Hid (FM W fb mb pg t a d i st'.1 st'.2) ∧ Hid (W.ownsRow w.heap.size 27 3 v L.length (tks L)) ∧ Hid (∀ x ∈ L, x.ok) ∧ Hid (Chg (fun k => k = mb ∨ k = pg) w W)) (fun _ s6 _ => t.size - (intOf s6).toNat)
  case atStart => exact ⟨a, st, _, [], rfl, rfl, ha, Nat.zero_le _, by show _ = _; unfold tokensN; rw [sby_length], HH, own_nil _ _ _ _, fun x hx => by simp at hx, Chg.refl _ _⟩
  case round =>
    clear HH
    obtain ⟨i, st', o, L, rfl, rfl, hi, hLi, HT, HF, HO, HOK, HC⟩ := hrel
    have c0 : wr.cell? ⟨fb, 0, none⟩ = some (.string t) := HF.out.blk.cell 0
    have hzr := HC.out.size
    by_cases hlt : i < t.size
    · have hlt2 : (i : Int) < (t.size : Int) := by omega
      have HLG := Lib.hid (longest_calls fb mb pg t a d i st'.1 st'.2 i wr HF.out hi (Nat.le_refl _) hd2)
      have hlo := longestN_ok (sby t) d st' i HF.out.hhd HF.out.hpv
      rw [sby_length] at hlo
      have hst : tokF (sby t) d lz (t.size + 1) i st' L = if tokStep (sby t) d lz st' i = 0 then tokF (sby t) d lz t.size (i + 1) (enterN (sby t) st' i) (L ++ [⟨gN (sby t) i, 0, 0⟩])
          else tokF (sby t) d lz t.size (i + tokStep (sby t) d lz st' i) (entersFrom (sby t) (enterN (sby t) st' i) (i + 1) (tokStep (sby t) d lz st' i - 1)) (L ++ [⟨0, tokStep (sby t) d lz st' i, (longestN (sby t) d st' i).2⟩]) := by
        rw [tokF, if_pos (by rw [sby_length]; exact hlt)]
      have HST := Lib.hid hst
      have hts : tokStep (sby t) d lz st' i = if (longestN (sby t) d st' i).1 = 0 then 0 else if lz = true ∧ (longestN (sby t) d st' i).1 < 258 ∧ (longestN (sby t) d st' i).1 < (longestN (sby t) d (enterN (sby t) st' i) (i + 1)).1 then 0 else (longestN (sby t) d st' i).1 := rfl
      have HTS := Lib.hid hts
      have HBY : Hid (gN (sby t) i < 256) := by
        show _ < _
        rw [← sby_at t i hlt]; exact (t[i]).toNat_lt
      clear hst hts
      rw [show (st'.1, st'.2) = st' from rfl] at HLG
      generalize longestN (sby t) d st' i = p at *
      obtain ⟨p1, p2⟩ := p
      dsimp only at hlo HST HTS HLG
      go_wp2_with fail
      refine HLG.out.mono ?_
      rintro e w1 ⟨rfl, m1, rfl⟩
      have HF1 := Lib.hid (HF.out.chg ((Chg.refl (fun _ => False) wr).drewN m1) (fun h => h) (fun h => h) (fun h => h))
      have HE := Lib.hid (enter_calls _ _ _ _ _ _ _ _ _ i _ HF1.out hlt (Nat.le_refl _))
      go_wp2_with fail
      refine HE.out.mono ?_
      rintro e w2 ⟨rfl, hF2, hc2⟩
      have hC12 : Chg (fun k => k = mb ∨ k = pg) wr w2 := ((Chg.refl _ wr).drewN m1).trans hc2 (fun k hk => Or.inl hk)
      have HF2 : Hid (FM w2 fb mb pg t a d (i + 1) (enterN (sby t) st' i).1 (enterN (sby t) st' i).2) := hF2
      have HC2 := Lib.hid (HC.out.trans hC12 (fun k hk => Or.inl hk))
      have HO2 := Lib.hid (hC12.own HO.out (fun k hk he => by have := own_base HO.out k hk; omega))
      have c2 : w2.cell? ⟨fb, 0, none⟩ = some (.string t) := HF2.out.blk.cell 0
      have hz2 := HC2.out.size
      obtain ⟨A, ko, rfl⟩ := own_slice HO2.out
      clear hF2 hc2 hC12 HF HO HC HF1 HE HLG c0
      have hit0 := hlt
      by_cases hp0 : p1 = 0
      · subst hp0
        have HZ : Hid (tokStep (sby t) d lz st' i = 0) := HTS.out.trans (if_pos rfl)
        clear HTS hlo
        have hn1 : L.length + 1 ≤ maxLen := by unfold maxLen; omega
        go_wp2_with (at_builtin; go_loud (refine wpList_append_lies _ rfl (.tmp 52) (.tmp 60) 24 rfl w.heap.size 27 it _ 3 24 Tryd.underlying24 hit hi0 hi1 hi2 rfl (by omega) _ L.length (tks L) rfl (HO2.out.alloc _) ⟨w2.heap.size, 0, none⟩ 1 1 [.int .u8 ((t[i]'hit0).toNat : Int), .int .i64 0, .int .i64 0] rfl rfl (World.news_of_block (cs := #[.int .u8 ((t[i]'hit0).toNat : Int), .int .i64 0, .int .i64 0]) (t := 27) (fr := (0, 0)) (heap_alloc_new w2 _)) (by simp [Value.oneCell']) (by omega) hn1 (by omega) (by simp; omega) _ rfl ?_); intro gg cap w4 hown4 hgrow hat hlt4)
        go_roundw
        case rel =>
          refine ⟨i + 1, enterN (sby t) st' i, _, L ++ [(⟨gN (sby t) i, 0, 0⟩ : Tok)], by go_num, rfl, by omega, by rw [List.length_append, List.length_singleton]; omega, ?_, ?_, ?_, ?_, ?_⟩
          · show _ = _
            rw [HT.out, HST.out, if_pos HZ.out]
            exact tokF_fuel _ _ _ _ _ _ _ _ (by rw [sby_length]; omega) (by rw [sby_length]; omega)
          · show FM _ _ _ _ _ _ _ _ _ _
            exact (HF2.out.chg ((Chg.refl (fun _ => False) _).alloc _) (fun h => h) (fun h => h) (fun h => h)).chg (Chg.of_grown hgrow) (fun he => by have := own_base HO2.out _ he; omega) (fun he => by have := own_base HO2.out _ he; omega) (fun he => by have := own_base HO2.out _ he; omega)
          · show World.ownsRow _ _ _ _ _ _ _
            rw [tks_append, List.length_append]
            rw [sby_at t i hit0] at hown4
            exact hown4
          · show ∀ _, _
            intro x hx
            rcases List.mem_append.1 hx with hx | hx
            · exact HOK.out x hx
            · rw [List.mem_singleton.1 hx]; exact Or.inl ⟨rfl, rfl, HBY.out⟩
          · show Chg _ _ _
            exact (HC2.out.alloc _).grown hgrow (fun k hk => Or.inr (own_base HO2.out k hk))
        case measure => simp [intOf]; omega
      · have hp3 : 3 ≤ p1 ∧ p1 ≤ 258 ∧ p1 ≤ t.size - i ∧ 1 ≤ p2 ∧ p2 ≤ 32768 := by
          rcases hlo with h | h
          · exact absurd h hp0
          · exact ⟨h.1, h.2.1, h.2.2.1, h.2.2.2.1, h.2.2.2.2.2.1⟩
        clear hlo
        have g1 : decide ((0 : Int) < (p1 : Int)) = true := by rw [decide_eq_true_iff]; omega
        have g2 : ((p1 : Int) == 0) = false := by simp; omega
        have g1' : (0 : Int) < (p1 : Int) := by omega
        have HP0 := Lib.hid hp0
        clear hp0
        cases lz with
        | false =>
          have HZ : Hid (tokStep (sby t) d false st' i = p1) := HTS.out.trans ((if_neg HP0.out).trans (if_neg (by simp)))
          clear HTS
          have hn1 : L.length + 1 ≤ maxLen := by unfold maxLen; omega
          go_wp2_with (at_builtin; go_loud (refine wpList_append_lies _ rfl (.tmp 64) (.tmp 68) 24 rfl w.heap.size 27 it _ 3 24 Tryd.underlying24 hit hi0 hi1 hi2 rfl (by omega) _ L.length (tks L) rfl (HO2.out.alloc _) ⟨w2.heap.size, 0, none⟩ 1 1 [.int .u8 0, .int .i64 (p1 : Int), .int .i64 (p2 : Int)] rfl rfl (World.news_of_block (cs := #[.int .u8 0, .int .i64 (p1 : Int), .int .i64 (p2 : Int)]) (t := 27) (fr := (0, 0)) (heap_alloc_new w2 _)) (by simp [Value.oneCell']) (by omega) hn1 (by omega) (by simp; omega) _ rfl ?_); intro gg cap w4 hown4 hgrow hat hlt4)
          have HF4 := Lib.hid ((HF2.out.chg ((Chg.refl (fun _ => False) _).alloc _) (fun h => h) (fun h => h) (fun h => h)).chg (Chg.of_grown hgrow) (fun he => by have := own_base HO2.out _ he; omega) (fun he => by have := own_base HO2.out _ he; omega) (fun he => by have := own_base HO2.out _ he; omega))
          have HO4 : Hid (w4.ownsRow w.heap.size 27 3 (.slice (some ⟨gg, 0, none⟩) (L.length + 1) cap) (L ++ [(⟨0, p1, p2⟩ : Tok)]).length (tks (L ++ [(⟨0, p1, p2⟩ : Tok)]))) := by
            show World.ownsRow _ _ _ _ _ _ _
            rw [tks_append, List.length_append]
            exact hown4
          have HC4 := Lib.hid ((HC2.out.alloc (.cells #[.int .u8 0, .int .i64 (p1 : Int), .int .i64 (p2 : Int)] 27)).grown hgrow (fun k hk => Or.inr (own_base HO2.out k hk)))
          have hz4 := HC4.out.size
          have hgw : w.heap.size ≤ gg := own_base HO4.out gg rfl
          clear hown4 hgrow hat HF2 HO2 HC2
          go_loopw [6, 72] (fun s6 s72 W => ∃ m : Nat, m ≤ p1 - 1 ∧ s6 = .int .i64 ((i + m : Nat) : Int) ∧ s72 = .int .i64 (m : Int) ∧ Hid (FM W fb mb pg t a d (i + 1 + m) (entersFrom (sby t) (enterN (sby t) st' i) (i + 1) m).1 (entersFrom (sby t) (enterN (sby t) st' i) (i + 1) m).2) ∧ Hid (Chg (fun k => k = mb ∨ k = pg) w4 W)) (fun _ s72 _ => p1 - 1 - (intOf s72).toNat)
          case atStart => exact ⟨0, Nat.zero_le _, rfl, rfl, HF4, Chg.refl _ _⟩
          case round =>
            rename_i wold
            obtain ⟨m, hm, rfl, rfl, HFm, HCm⟩ := hrel
            by_cases hml : m < p1 - 1
            · have hml2 : (m : Int) < (p1 : Int) - 1 := by omega
              have HE := Lib.hid (enter_calls _ _ _ _ _ _ _ _ _ (i + 1 + m) wr HFm.out (by omega) (Nat.le_refl _))
              rw [show ((i + 1 + m : Nat) : Int) = (i : Int) + (m : Int) + 1 by omega] at HE
              have cst : ((i + m : Nat) : Int) = (i : Int) + (m : Int) := by omega
              rw [cst]
              have hw1 : IntKind.i64.wrap ((i : Int) + (m : Int) + 1) = (i : Int) + (m : Int) + 1 := IntWalk.i64_in _ (by omega)
              clear cst
              go_wp2_with fail
              refine HE.out.mono ?_
              rintro e w5 ⟨rfl, hF5, hc5⟩
              have HF5 := Lib.hid hF5
              have HC5 := Lib.hid hc5
              clear hF5 hc5
              go_wp2
              go_roundw
              case rel =>
                refine ⟨m + 1, by omega, by first | go_num | (congr 1; omega), by go_num, ?_, HCm.out.trans HC5.out (fun k hk => Or.inl hk)⟩
                show FM _ _ _ _ _ _ _ _ _ _
                exact HF5.out
              case measure => simp [intOf]; omega
            · have hme : m = p1 - 1 := by omega
              have hml2 : ¬ (m : Int) < (p1 : Int) - 1 := by omega
              have cst : ((i + m : Nat) : Int) = (i : Int) + (m : Int) := by omega
              rw [cst]
              have hw1 : IntKind.i64.wrap ((i : Int) + (m : Int) + 1) = (i : Int) + (m : Int) + 1 := IntWalk.i64_in _ (by omega)
              have HME := Lib.hid hme
              clear cst hme
              go_wp2
              go_roundw
              case rel =>
                have hme := HME.out
                have hbk : ∀ k, (Value.slice (some ⟨gg, 0, none⟩) (L.length + 1) cap).ownBlock = some k → ¬ (k = mb ∨ k = pg) := fun k hk he => by have := own_base HO4.out k hk; omega
                refine ⟨i + p1, entersFrom (sby t) (enterN (sby t) st' i) (i + 1) (p1 - 1), _, L ++ [(⟨0, p1, p2⟩ : Tok)], by congr 1; omega, rfl, by omega, by rw [List.length_append, List.length_singleton]; omega, ?_, ?_, HCm.out.own HO4.out hbk, ?_, ?_⟩
                · show _ = _
                  rw [HT.out, HST.out, HZ.out, if_neg (by omega)]
                  exact tokF_fuel _ _ _ _ _ _ _ _ (by rw [sby_length]; omega) (by rw [sby_length]; omega)
                · show FM _ _ _ _ _ _ _ _ _ _
                  have h9 := HFm.out
                  rw [hme, show i + 1 + (p1 - 1) = i + p1 by omega] at h9
                  exact h9
                · show ∀ _, _
                  intro x hx
                  rcases List.mem_append.1 hx with hx | hx
                  · exact HOK.out x hx
                  · rw [List.mem_singleton.1 hx]; exact Or.inr ⟨rfl, by dsimp only; omega, by dsimp only; omega, by dsimp only; omega, by dsimp only; omega⟩
                · show Chg _ _ _
                  exact HC4.out.trans HCm.out (fun k hk => Or.inl hk)
              case measure => simp [intOf]; omega
        | true =>
          by_cases h258 : p1 < 258
          · have g3 : decide ((p1 : Int) < 258) = true := by rw [decide_eq_true_iff]; omega
            have hl2 := longest_calls fb mb pg t a d (i + 1) _ _ (i + 1) w2 HF2.out (by omega) (Nat.le_refl _) hd2
            rw [show ((enterN (sby t) st' i).1, (enterN (sby t) st' i).2) = enterN (sby t) st' i from rfl, show ((i + 1 : Nat) : Int) = (i : Int) + 1 by omega] at hl2
            have HL2 := Lib.hid hl2
            clear hl2
            generalize longestN (sby t) d (enterN (sby t) st' i) (i + 1) = q at *
            obtain ⟨q1, q2⟩ := q
            dsimp only at HTS HL2
            go_wp2_with fail
            refine HL2.out.mono ?_
            rintro e w' ⟨rfl, m2, rfl⟩
            have hdr : Chg (fun _ => False) w2 (w2.drewN m2) := (Chg.refl (fun _ => False) w2).drewN m2
            have HF3 := Lib.hid (HF2.out.chg hdr (fun h => h) (fun h => h) (fun h => h))
            have HO3 := Lib.hid (hdr.own HO2.out (fun _ _ h => h))
            have HC3 := Lib.hid (HC2.out.drewN m2)
            have c3 : (w2.drewN m2).cell? ⟨fb, 0, none⟩ = some (.string t) := HF3.out.blk.cell 0
            have hz3 := HC3.out.size
            clear hdr HF2 HO2 HC2 c2 HL2
            generalize w2.drewN m2 = w3 at *
            by_cases hpq : p1 < q1
            · have hpq' : (p1 : Int) < (q1 : Int) := by omega
              have HZ : Hid (tokStep (sby t) d true st' i = 0) := HTS.out.trans ((if_neg HP0.out).trans (if_pos ⟨trivial, h258, hpq⟩))
              clear HTS
              have hn1 : L.length + 1 ≤ maxLen := by unfold maxLen; omega
              go_wp2_with (at_builtin; go_loud (refine wpList_append_lies _ rfl (.tmp 52) (.tmp 60) 24 rfl w.heap.size 27 it _ 3 24 Tryd.underlying24 hit hi0 hi1 hi2 rfl (by omega) _ L.length (tks L) rfl (HO3.out.alloc _) ⟨w3.heap.size, 0, none⟩ 1 1 [.int .u8 ((t[i]'hit0).toNat : Int), .int .i64 0, .int .i64 0] rfl rfl (World.news_of_block (cs := #[.int .u8 ((t[i]'hit0).toNat : Int), .int .i64 0, .int .i64 0]) (t := 27) (fr := (0, 0)) (heap_alloc_new w3 _)) (by simp [Value.oneCell']) (by omega) hn1 (by omega) (by simp; omega) _ rfl ?_); intro gg cap w4 hown4 hgrow hat hlt4)
              go_roundw
              case rel =>
                refine ⟨i + 1, enterN (sby t) st' i, _, L ++ [(⟨gN (sby t) i, 0, 0⟩ : Tok)], by go_num, rfl, by omega, by rw [List.length_append, List.length_singleton]; omega, ?_, ?_, ?_, ?_, ?_⟩
                · show _ = _
                  rw [HT.out, HST.out, if_pos HZ.out]
                  exact tokF_fuel _ _ _ _ _ _ _ _ (by rw [sby_length]; omega) (by rw [sby_length]; omega)
                · show FM _ _ _ _ _ _ _ _ _ _
                  exact (HF3.out.chg ((Chg.refl (fun _ => False) _).alloc _) (fun h => h) (fun h => h) (fun h => h)).chg (Chg.of_grown hgrow) (fun he => by have := own_base HO3.out _ he; omega) (fun he => by have := own_base HO3.out _ he; omega) (fun he => by have := own_base HO3.out _ he; omega)
                · show World.ownsRow _ _ _ _ _ _ _
                  rw [tks_append, List.length_append]
                  rw [sby_at t i hit0] at hown4
                  exact hown4
                · show ∀ _, _
                  intro x hx
                  rcases List.mem_append.1 hx with hx | hx
                  · exact HOK.out x hx
                  · rw [List.mem_singleton.1 hx]; exact Or.inl ⟨rfl, rfl, HBY.out⟩
                · show Chg _ _ _
                  exact (HC3.out.alloc _).grown hgrow (fun k hk => Or.inr (own_base HO3.out k hk))
              case measure => simp [intOf]; omega
            · have hpq' : ¬ (p1 : Int) < (q1 : Int) := by omega
              have HZ : Hid (tokStep (sby t) d true st' i = p1) := HTS.out.trans ((if_neg HP0.out).trans (if_neg (fun h => hpq h.2.2)))
              clear HTS
              have hn1 : L.length + 1 ≤ maxLen := by unfold maxLen; omega
              go_wp2_with (at_builtin; go_loud (refine wpList_append_lies _ rfl (.tmp 64) (.tmp 68) 24 rfl w.heap.size 27 it _ 3 24 Tryd.underlying24 hit hi0 hi1 hi2 rfl (by omega) _ L.length (tks L) rfl (HO3.out.alloc _) ⟨w3.heap.size, 0, none⟩ 1 1 [.int .u8 0, .int .i64 (p1 : Int), .int .i64 (p2 : Int)] rfl rfl (World.news_of_block (cs := #[.int .u8 0, .int .i64 (p1 : Int), .int .i64 (p2 : Int)]) (t := 27) (fr := (0, 0)) (heap_alloc_new w3 _)) (by simp [Value.oneCell']) (by omega) hn1 (by omega) (by simp; omega) _ rfl ?_); intro gg cap w4 hown4 hgrow hat hlt4)
              have HF4 := Lib.hid ((HF3.out.chg ((Chg.refl (fun _ => False) _).alloc _) (fun h => h) (fun h => h) (fun h => h)).chg (Chg.of_grown hgrow) (fun he => by have := own_base HO3.out _ he; omega) (fun he => by have := own_base HO3.out _ he; omega) (fun he => by have := own_base HO3.out _ he; omega))
              have HO4 : Hid (w4.ownsRow w.heap.size 27 3 (.slice (some ⟨gg, 0, none⟩) (L.length + 1) cap) (L ++ [(⟨0, p1, p2⟩ : Tok)]).length (tks (L ++ [(⟨0, p1, p2⟩ : Tok)]))) := by
                show World.ownsRow _ _ _ _ _ _ _
                rw [tks_append, List.length_append]
                exact hown4
              have HC4 := Lib.hid ((HC3.out.alloc (.cells #[.int .u8 0, .int .i64 (p1 : Int), .int .i64 (p2 : Int)] 27)).grown hgrow (fun k hk => Or.inr (own_base HO3.out k hk)))
              have hz4 := HC4.out.size
              have hgw : w.heap.size ≤ gg := own_base HO4.out gg rfl
              clear hown4 hgrow hat HF3 HO3 HC3
              go_loopw [6, 72] (fun s6 s72 W => ∃ m : Nat, m ≤ p1 - 1 ∧ s6 = .int .i64 ((i + m : Nat) : Int) ∧ s72 = .int .i64 (m : Int) ∧ Hid (FM W fb mb pg t a d (i + 1 + m) (entersFrom (sby t) (enterN (sby t) st' i) (i + 1) m).1 (entersFrom (sby t) (enterN (sby t) st' i) (i + 1) m).2) ∧ Hid (Chg (fun k => k = mb ∨ k = pg) w4 W)) (fun _ s72 _ => p1 - 1 - (intOf s72).toNat)
              case atStart => exact ⟨0, Nat.zero_le _, rfl, rfl, HF4, Chg.refl _ _⟩
              case round =>
                rename_i wold
                obtain ⟨m, hm, rfl, rfl, HFm, HCm⟩ := hrel
                by_cases hml : m < p1 - 1
                · have hml2 : (m : Int) < (p1 : Int) - 1 := by omega
                  have HE := Lib.hid (enter_calls _ _ _ _ _ _ _ _ _ (i + 1 + m) wr HFm.out (by omega) (Nat.le_refl _))
                  rw [show ((i + 1 + m : Nat) : Int) = (i : Int) + (m : Int) + 1 by omega] at HE
                  have cst : ((i + m : Nat) : Int) = (i : Int) + (m : Int) := by omega
                  rw [cst]
                  have hw1 : IntKind.i64.wrap ((i : Int) + (m : Int) + 1) = (i : Int) + (m : Int) + 1 := IntWalk.i64_in _ (by omega)
                  clear cst
                  go_wp2_with fail
                  refine HE.out.mono ?_
                  rintro e w5 ⟨rfl, hF5, hc5⟩
                  have HF5 := Lib.hid hF5
                  have HC5 := Lib.hid hc5
                  clear hF5 hc5
                  go_wp2
                  go_roundw
                  case rel =>
                    refine ⟨m + 1, by omega, by first | go_num | (congr 1; omega), by go_num, ?_, HCm.out.trans HC5.out (fun k hk => Or.inl hk)⟩
                    show FM _ _ _ _ _ _ _ _ _ _
                    exact HF5.out
                  case measure => simp [intOf]; omega
                · have hme : m = p1 - 1 := by omega
                  have hml2 : ¬ (m : Int) < (p1 : Int) - 1 := by omega
                  have cst : ((i + m : Nat) : Int) = (i : Int) + (m : Int) := by omega
                  rw [cst]
                  have hw1 : IntKind.i64.wrap ((i : Int) + (m : Int) + 1) = (i : Int) + (m : Int) + 1 := IntWalk.i64_in _ (by omega)
                  have HME := Lib.hid hme
                  clear cst hme
                  go_wp2
                  go_roundw
                  case rel =>
                    have hme := HME.out
                    have hbk : ∀ k, (Value.slice (some ⟨gg, 0, none⟩) (L.length + 1) cap).ownBlock = some k → ¬ (k = mb ∨ k = pg) := fun k hk he => by have := own_base HO4.out k hk; omega
                    refine ⟨i + p1, entersFrom (sby t) (enterN (sby t) st' i) (i + 1) (p1 - 1), _, L ++ [(⟨0, p1, p2⟩ : Tok)], by congr 1; omega, rfl, by omega, by rw [List.length_append, List.length_singleton]; omega, ?_, ?_, HCm.out.own HO4.out hbk, ?_, ?_⟩
                    · show _ = _
                      rw [HT.out, HST.out, HZ.out, if_neg (by omega)]
                      exact tokF_fuel _ _ _ _ _ _ _ _ (by rw [sby_length]; omega) (by rw [sby_length]; omega)
                    · show FM _ _ _ _ _ _ _ _ _ _
                      have h9 := HFm.out
                      rw [hme, show i + 1 + (p1 - 1) = i + p1 by omega] at h9
                      exact h9
                    · show ∀ _, _
                      intro x hx
                      rcases List.mem_append.1 hx with hx | hx
                      · exact HOK.out x hx
                      · rw [List.mem_singleton.1 hx]; exact Or.inr ⟨rfl, by dsimp only; omega, by dsimp only; omega, by dsimp only; omega, by dsimp only; omega⟩
                    · show Chg _ _ _
                      exact HC4.out.trans HCm.out (fun k hk => Or.inl hk)
                  case measure => simp [intOf]; omega
          · have HZ : Hid (tokStep (sby t) d true st' i = p1) := HTS.out.trans ((if_neg HP0.out).trans (if_neg (fun h => h258 h.2.1)))
            have g3 : decide ((p1 : Int) < 258) = false := by simp; omega
            clear HTS
            have hn1 : L.length + 1 ≤ maxLen := by unfold maxLen; omega
            go_wp2_with (at_builtin; go_loud (refine wpList_append_lies _ rfl (.tmp 64) (.tmp 68) 24 rfl w.heap.size 27 it _ 3 24 Tryd.underlying24 hit hi0 hi1 hi2 rfl (by omega) _ L.length (tks L) rfl (HO2.out.alloc _) ⟨w2.heap.size, 0, none⟩ 1 1 [.int .u8 0, .int .i64 (p1 : Int), .int .i64 (p2 : Int)] rfl rfl (World.news_of_block (cs := #[.int .u8 0, .int .i64 (p1 : Int), .int .i64 (p2 : Int)]) (t := 27) (fr := (0, 0)) (heap_alloc_new w2 _)) (by simp [Value.oneCell']) (by omega) hn1 (by omega) (by simp; omega) _ rfl ?_); intro gg cap w4 hown4 hgrow hat hlt4)
            have HF4 := Lib.hid ((HF2.out.chg ((Chg.refl (fun _ => False) _).alloc _) (fun h => h) (fun h => h) (fun h => h)).chg (Chg.of_grown hgrow) (fun he => by have := own_base HO2.out _ he; omega) (fun he => by have := own_base HO2.out _ he; omega) (fun he => by have := own_base HO2.out _ he; omega))
            have HO4 : Hid (w4.ownsRow w.heap.size 27 3 (.slice (some ⟨gg, 0, none⟩) (L.length + 1) cap) (L ++ [(⟨0, p1, p2⟩ : Tok)]).length (tks (L ++ [(⟨0, p1, p2⟩ : Tok)]))) := by
              show World.ownsRow _ _ _ _ _ _ _
              rw [tks_append, List.length_append]
              exact hown4
            have HC4 := Lib.hid ((HC2.out.alloc (.cells #[.int .u8 0, .int .i64 (p1 : Int), .int .i64 (p2 : Int)] 27)).grown hgrow (fun k hk => Or.inr (own_base HO2.out k hk)))
            have hz4 := HC4.out.size
            have hgw : w.heap.size ≤ gg := own_base HO4.out gg rfl
            clear hown4 hgrow hat HF2 HO2 HC2
            go_loopw [6, 72] (fun s6 s72 W => ∃ m : Nat, m ≤ p1 - 1 ∧ s6 = .int .i64 ((i + m : Nat) : Int) ∧ s72 = .int .i64 (m : Int) ∧ Hid (FM W fb mb pg t a d (i + 1 + m) (entersFrom (sby t) (enterN (sby t) st' i) (i + 1) m).1 (entersFrom (sby t) (enterN (sby t) st' i) (i + 1) m).2) ∧ Hid (Chg (fun k => k = mb ∨ k = pg) w4 W)) (fun _ s72 _ => p1 - 1 - (intOf s72).toNat)
            case atStart => exact ⟨0, Nat.zero_le _, rfl, rfl, HF4, Chg.refl _ _⟩
            case round =>
              rename_i wold
              obtain ⟨m, hm, rfl, rfl, HFm, HCm⟩ := hrel
              by_cases hml : m < p1 - 1
              · have hml2 : (m : Int) < (p1 : Int) - 1 := by omega
                have HE := Lib.hid (enter_calls _ _ _ _ _ _ _ _ _ (i + 1 + m) wr HFm.out (by omega) (Nat.le_refl _))
                rw [show ((i + 1 + m : Nat) : Int) = (i : Int) + (m : Int) + 1 by omega] at HE
                have cst : ((i + m : Nat) : Int) = (i : Int) + (m : Int) := by omega
                rw [cst]
                have hw1 : IntKind.i64.wrap ((i : Int) + (m : Int) + 1) = (i : Int) + (m : Int) + 1 := IntWalk.i64_in _ (by omega)
                clear cst
                go_wp2_with fail
                refine HE.out.mono ?_
                rintro e w5 ⟨rfl, hF5, hc5⟩
                have HF5 := Lib.hid hF5
                have HC5 := Lib.hid hc5
                clear hF5 hc5
                go_wp2
                go_roundw
                case rel =>
                  refine ⟨m + 1, by omega, by first | go_num | (congr 1; omega), by go_num, ?_, HCm.out.trans HC5.out (fun k hk => Or.inl hk)⟩
                  show FM _ _ _ _ _ _ _ _ _ _
                  exact HF5.out
                case measure => simp [intOf]; omega
              · have hme : m = p1 - 1 := by omega
                have hml2 : ¬ (m : Int) < (p1 : Int) - 1 := by omega
                have cst : ((i + m : Nat) : Int) = (i : Int) + (m : Int) := by omega
                rw [cst]
                have hw1 : IntKind.i64.wrap ((i : Int) + (m : Int) + 1) = (i : Int) + (m : Int) + 1 := IntWalk.i64_in _ (by omega)
                have HME := Lib.hid hme
                clear cst hme
                go_wp2
                go_roundw
                case rel =>
                  have hme := HME.out
                  have hbk : ∀ k, (Value.slice (some ⟨gg, 0, none⟩) (L.length + 1) cap).ownBlock = some k → ¬ (k = mb ∨ k = pg) := fun k hk he => by have := own_base HO4.out k hk; omega
                  refine ⟨i + p1, entersFrom (sby t) (enterN (sby t) st' i) (i + 1) (p1 - 1), _, L ++ [(⟨0, p1, p2⟩ : Tok)], by congr 1; omega, rfl, by omega, by rw [List.length_append, List.length_singleton]; omega, ?_, ?_, HCm.out.own HO4.out hbk, ?_, ?_⟩
                  · show _ = _
                    rw [HT.out, HST.out, HZ.out, if_neg (by omega)]
                    exact tokF_fuel _ _ _ _ _ _ _ _ (by rw [sby_length]; omega) (by rw [sby_length]; omega)
                  · show FM _ _ _ _ _ _ _ _ _ _
                    have h9 := HFm.out
                    rw [hme, show i + 1 + (p1 - 1) = i + p1 by omega] at h9
                    exact h9
                  · show ∀ _, _
                    intro x hx
                    rcases List.mem_append.1 hx with hx | hx
                    · exact HOK.out x hx
                    · rw [List.mem_singleton.1 hx]; exact Or.inr ⟨rfl, by dsimp only; omega, by dsimp only; omega, by dsimp only; omega, by dsimp only; omega⟩
                  · show Chg _ _ _
                    exact HC4.out.trans HCm.out (fun k hk => Or.inl hk)
                case measure => simp [intOf]; omega
    · have hie : i = t.size := by omega
      have hlt2 : ¬ (i : Int) < (t.size : Int) := by omega
      have hend : tokF (sby t) d lz (t.size + 1) i st' L = L := by rw [tokF, if_neg (by rw [sby_length]; omega)]
      have HEND := Lib.hid (HT.out.trans hend)
      clear hend
      go_wp2_with fail
      try rw [Exit.noGoto_ret]
      go_ret
      rw [HEND.out]
      exact ⟨_, rfl, HO.out, HOK.out, HC.out⟩
end Go.Proofs.YtakoidkeaccgeaaDoor

/- match: Tokens. -/
namespace Go.Proofs.YtakoidkeaccgeaaDoor
open Go.RowKit Go.Shelf Go.Sort

def depL : List Nat := [0, 4, 8, 16, 16, 32, 64, 128, 512, 1073741824]
def depN (i : Nat) : Nat := gN depL i
theorem depN_le : ∀ i, i < 10 → depN i ≤ 1073741824 := by decide +kernel
/-- The table of depths lies where it lay. -/
def DepM (w : World) : Prop := ∀ i, i < 10 → w.cell? ⟨1, i, none⟩ = some (.int .i64 (depN i : Int))
theorem DepM.chg {w w' : World} {T : Nat → Prop} (h : DepM w) (hc : Chg T w w') (hT : ¬ T 1) : DepM w' := fun i hi => hc.cell (h i hi) hT
theorem DepM.lt {w : World} (h : DepM w) : 1 < w.heap.size := World.block_lt_of_cell? w _ (h 0 (by omega))
def litT (b : Nat) : Tok := ⟨b, 0, 0⟩
/-- The tokens of a text of a level. -/
def matchN (level : Nat) (a s : ByteArray) : List Tok :=
  if level = 0 then (sby s).map litT else tokensN (sby (cutA a ++ s)) (depN level) (decide (4 ≤ level)) (cutA a).size (entersN (sby (cutA a ++ s)) (cutA a).size)
theorem tokF_length (t : List Nat) (d : Nat) (lz : Bool) : ∀ f i st out, (tokF t d lz f i st out).length ≤ out.length + (t.length - i)
  | 0, i, st, out => by rw [tokF]; omega
  | f + 1, i, st, out => by
    rw [tokF]
    split
    · split
      · have := tokF_length t d lz f (i + 1) (enterN t st i) (out ++ [⟨gN t i, 0, 0⟩])
        rw [List.length_append, List.length_singleton] at this
        omega
      · have := tokF_length t d lz f (i + tokStep t d lz st i) (entersFrom t (enterN t st i) (i + 1) (tokStep t d lz st i - 1)) (out ++ [⟨0, tokStep t d lz st i, (longestN t d st i).2⟩])
        rw [List.length_append, List.length_singleton] at this
        omega
    · omega
theorem matchN_length (level : Nat) (a s : ByteArray) : (matchN level a s).length ≤ s.size := by
  unfold matchN
  split
  · rw [List.length_map, sby_length]; exact Nat.le_refl _
  · unfold tokensN
    refine Nat.le_trans (tokF_length _ _ _ _ _ _ _) ?_
    rw [sby_length, ByteArray.size_append]
    simp
/-- What Tokens comes to. -/
def TokR (w : World) (L : List Tok) (e : Ending) (w' : World) : Prop := ∃ v', e = .returned (.tuple #[v', .int .i64 0]) ∧ w'.ownsRow w.heap.size 27 3 v' L.length (tks L) ∧ (∀ x ∈ L, x.ok) ∧ Chg (fun _ => False) w w'
/-- The first k told, the others zeros. -/
def litP (s : List Nat) (k : Nat) : List Tok := (s.take k).map litT ++ List.replicate (s.length - k) (litT 0)
theorem litP_length (s : List Nat) (k : Nat) (h : k ≤ s.length) : (litP s k).length = s.length := by simp [litP]; omega
theorem take_snoc_gN' (l : List Nat) (k : Nat) (h : k < l.length) : l.take (k + 1) = l.take k ++ [gN l k] := by
  rw [List.take_succ_eq_append_getElem h, gN_eq]
theorem litP_set (s : List Nat) (k : Nat) (h : k < s.length) : (litP s k).set k (litT (gN s k)) = litP s (k + 1) := by
  unfold litP
  have hl : ((s.take k).map litT).length = k := by simp; omega
  rw [List.set_append_right _ _ (by omega), hl, Nat.sub_self, show s.length - k = (s.length - (k + 1)) + 1 by omega, List.replicate_succ, List.set_cons_zero, take_snoc_gN' s k h, List.map_append, List.append_assoc]
  rfl
theorem gT_set (l : List Tok) (i j : Nat) (x : Tok) : gT (l.set i x) j = if i = j ∧ j < l.length then x else gT l j := by
  unfold gT
  rw [List.getD_eq_getElem?_getD, List.getElem?_set]
  by_cases e : i = j
  · subst e
    by_cases h : i < l.length <;> simp [h]
  · simp [e, List.getD_eq_getElem?_getD]
theorem tks_cons (x : Tok) (l : List Tok) : tks (x :: l) = .int .u8 (x.byte : Int) :: .int .i64 (x.len : Int) :: .int .i64 (x.dist : Int) :: tks l := rfl
theorem tks_set0 : ∀ (l : List Tok) (i : Nat) (b : Nat), (tks l).set (i * 3) (.int .u8 (b : Int)) = tks (l.set i ⟨b, (gT l i).len, (gT l i).dist⟩)
  | [], i, b => by simp [tks]
  | x :: l, 0, b => rfl
  | x :: l, i + 1, b => by
    rw [tks_cons, List.set_cons_succ, tks_cons, show (i + 1) * 3 = i * 3 + 1 + 1 + 1 by omega, List.set_cons_succ, List.set_cons_succ, List.set_cons_succ, tks_set0 l i b]
    rfl
theorem litP_at (s : List Nat) (k : Nat) (h : k < s.length) : gT (litP s k) k = litT 0 := by
  unfold gT litP
  have hl : ((s.take k).map litT).length = k := by simp; omega
  rw [List.getD_eq_getElem?_getD, List.getElem?_append_right (by omega), hl, Nat.sub_self, List.getElem?_replicate, if_pos (by omega)]
  rfl
theorem tks_get : ∀ (n i : Nat), i < n * 3 → (tks (List.replicate n (litT 0)))[i]? = some (#[Value.int .u8 0, Value.int .i64 0, Value.int .i64 0][i % 3]!)
  | 0, i, h => by omega
  | n + 1, i, h => by
    rw [List.replicate_succ, tks_cons]
    match i, h with
    | 0, _ => rfl
    | 1, _ => rfl
    | 2, _ => rfl
    | i + 3, h =>
      rw [List.getElem?_cons_succ, List.getElem?_cons_succ, List.getElem?_cons_succ, tks_get n i (by omega), Nat.add_mod_right]
theorem tks_rep (n : Nat) : (madeCells (Value.agg #[.int .u8 0, .int .i64 0, .int .i64 0]).cells (n * 3)).toList = tks (List.replicate n (litT 0)) := by
  apply List.ext_getElem?
  intro i
  by_cases h : i < n * 3
  · rw [tks_get n i h]
    simp [madeCells, h, Value.cells]
  · rw [List.getElem?_eq_none (by simp [madeCells]; omega), List.getElem?_eq_none (by rw [tks_length]; simp; omega)]
set_option maxHeartbeats 3200000 in
set_option maxRecDepth 100000 in
theorem tokens0_calls (a s : ByteArray) (w : World) (hs : s.size ≤ 1000000) :
    Calls Tryd.prog 55 #[.string a, .string s, .int .i64 0] w (TokR w (matchN 0 a s)) := by
  obtain ⟨it, hit, hi0, hi1, hi2⟩ := info_parts infoTok
  have hmn : matchN 0 a s = (sby s).map litT := if_pos rfl
  have HMN := Lib.hid hmn
  clear hmn
  go_enter Tryd.func55, Tryd.ntmps55
  go_wp2_with (at_make; go_loud (refine wpList_make_full _ rfl (.tmp 21) (.tmp 21) 24 rfl w.heap.size 27 it (.agg #[.int .u8 0, .int .i64 0, .int .i64 0]) 3 Tryd.underlying24 hit hi0 hi1 .i64 .i64 _ _ s.size rfl rfl rfl rfl (by rw [hi2]; omega) (by unfold maxLen; omega) (Nat.le_refl _) ?_); intro w1 hown hgr)
  rw [tks_rep] at hown
  have hc1 : Chg (fun _ => False) w w1 := (Chg.refl _ _).grown hgr (fun k hk => by cases hk)
  have HO : Hid (w1.ownsRow w.heap.size 27 3 (.slice (some ⟨w.heap.size, 0, none⟩) s.size s.size) s.size (tks (litP (sby s) 0))) := by
    show World.ownsRow _ _ _ _ _ _ _
    unfold litP
    rw [sby_length]
    simpa using hown
  have HC := Lib.hid hc1
  clear hown hgr hc1
  go_loopw [25] (fun i W => ∃ k : Nat, k ≤ s.size ∧ i = .int .i64 (k : Int) ∧ Hid (W.ownsRow w.heap.size 27 3 (.slice (some ⟨w.heap.size, 0, none⟩) s.size s.size) s.size (tks (litP (sby s) k))) ∧ Hid (Chg (fun _ => False) w W)) (fun i _ => s.size - (intOf i).toNat)
  case atStart => exact ⟨0, Nat.zero_le _, rfl, HO, HC⟩
  case round =>
    clear HO HC
    obtain ⟨k, hk, rfl, HO, HC⟩ := hrel
    by_cases hkl : k < s.size
    · have hkl2 : (k : Int) < (s.size : Int) := by omega
      have hsl : k < (sby s).length := by rw [sby_length]; exact hkl
      have hpl := litP_length (sby s) k (by omega)
      have htk := tks_at (litP (sby s) k) k (by omega)
      rw [gT_eq _ k (by omega), litP_at _ k hsl] at htk
      have hcx := (HO.out.cellAt (k * 3) (by omega)).trans htk.1
      have hfx := HO.out.frozenAt (k * 3)
      have hset := tks_set0 (litP (sby s) k) k (gN (sby s) k)
      rw [litP_at _ k hsl, show (⟨gN (sby s) k, (litT 0).len, (litT 0).dist⟩ : Tok) = litT (gN (sby s) k) from rfl, litP_set _ k hsl] at hset
      have hb := sby_at s k hkl
      have HSET := Lib.hid hset
      have HB := Lib.hid hb
      clear htk hset hb hpl
      go_wp2
      go_roundw
      case rel =>
        refine ⟨k + 1, by omega, by go_num, ?_, ?_⟩
        · show World.ownsRow _ _ _ _ _ _ _
          have h4 := (HO.out.stored (k * 3) (.int .u8 (gN (sby s) k : Int))).1
          rw [HSET.out, ← HB.out] at h4
          exact h4
        · show Chg _ _ _
          exact HC.out.setCell (p := ⟨w.heap.size, k * 3, none⟩) (Or.inr (Nat.le_refl _)) _
      case measure => simp [intOf]; omega
    · have hke : k = s.size := by omega
      have hkl2 : ¬ (k : Int) < (s.size : Int) := by omega
      have hfin : litP (sby s) k = (sby s).map litT := by
        unfold litP
        rw [List.take_of_length_le (by rw [sby_length]; omega), sby_length, show s.size - k = 0 by omega]
        simp
      have HFIN := Lib.hid hfin
      clear hke hfin
      go_wp2
      go_ret2
      rw [HMN.out]
      have h9 := HO.out
      rw [HFIN.out] at h9
      refine ⟨_, rfl, ?_, ?_, HC.out⟩
      · rw [List.length_map, sby_length]; exact h9
      · intro x hx
        obtain ⟨b, hb, rfl⟩ := List.mem_map.1 hx
        exact Or.inl ⟨rfl, rfl, sby_lt s b hb⟩

set_option maxHeartbeats 3200000 in
set_option maxRecDepth 100000 in
theorem tokensL_calls (a s : ByteArray) (level : Nat) (w : World) (ha : a.size ≤ 1000000) (hs : s.size ≤ 1000000) (h1 : 1 ≤ level) (h9 : level ≤ 9) (hd : DepM w) :
    Calls Tryd.prog 55 #[.string a, .string s, .int .i64 (level : Int)] w (TokR w (matchN level a s)) := by
  have g1 : decide ((level : Int) < 0) = false := by simp
  have g2 : decide ((9 : Int) < (level : Int)) = false := by simp; omega
  have g3 : ((level : Int) == 0) = false := by simp; omega
  have g4 : decide ((4 : Int) ≤ (level : Int)) = decide (4 ≤ level) := by
    rw [Bool.eq_iff_iff]; simp; omega
  have hlv : (level : Int) < 10 := by omega
  have hcell := hd level (by omega)
  have hmn : matchN level a s = tokensN (sby (cutA a ++ s)) (depN level) (decide (4 ≤ level)) (cutA a).size (entersN (sby (cutA a ++ s)) (cutA a).size) := if_neg (by omega)
  have HMN := Lib.hid hmn
  have hdl := depN_le level (by omega)
  have HNF := Lib.hid (newFinder_calls a s (depN level) w ha hs)
  have G4 := Lib.hid g4
  clear hmn hd g4
  go_enter Tryd.func55, Tryd.ntmps55
  go_wp2_with fail
  refine HNF.out.mono ?_
  rintro e w1 ⟨fb, mb, pg, rfl, h1, h2, h3, hF, hC⟩
  have hsz : (cutA a).size ≤ (cutA a ++ s).size := by rw [ByteArray.size_append]; omega
  have HTK := Lib.hid (fun lz => tokens_m_calls fb mb pg (cutA a ++ s) (cutA a).size (depN level) lz (entersN (sby (cutA a ++ s)) (cutA a).size) w1 hF hsz hdl)
  have HC := Lib.hid hC
  have hz := hC.size
  clear hF hC HNF
  go_wp2_with fail
  rw [G4.out]
  refine (HTK.out _).mono ?_
  rintro e w2 ⟨v', rfl, hO, hok, hC2⟩
  rw [← HMN.out] at hO hok
  have hol := own_lower hO hz
  have HO := Lib.hid hol
  have HOK := Lib.hid hok
  have HC2 := Lib.hid hC2
  clear hO hok hC2 hol HTK
  go_wp2
  go_ret2
  exact ⟨v', rfl, HO.out, HOK.out, HC.out.trans HC2.out (fun k hk => Or.inr (by omega))⟩
/-- Tokens, of every level. -/
theorem matchTokens_calls (a s : ByteArray) (level : Nat) (w : World) (ha : a.size ≤ 1000000) (hs : s.size ≤ 1000000) (h9 : level ≤ 9) (hd : DepM w) :
    Calls Tryd.prog 55 #[.string a, .string s, .int .i64 (level : Int)] w (TokR w (matchN level a s)) := by
  by_cases h : level = 0
  · subst h
    exact tokens0_calls a s w hs
  · exact tokensL_calls a s level w ha hs (by omega) h9 hd
end Go.Proofs.YtakoidkeaccgeaaDoor
