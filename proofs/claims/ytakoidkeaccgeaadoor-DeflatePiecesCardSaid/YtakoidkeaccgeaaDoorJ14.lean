/- block: fixedCoder. -/
import Derived.Test.YtakoidkeaccgeaaDoorJ12
import Derived.Test.YtakoidkeaccgeaaDoorJ13
import Derived.Test.YtakoidkeaccgeaaDoorJ8
namespace Go.Proofs.YtakoidkeaccgeaaDoor
open Go.RowKit Go.Shelf Go.Sort

def fixn : Nat → Nat | 0 => 8 | 1 => 9 | 2 => 7 | _ => 8
def fixu : Nat → Nat | 0 => 144 | 1 => 256 | 2 => 280 | _ => 288
/-- The lengths of the kind Fixed behind the first k parts. -/
def fixP : Nat → List Nat
  | 0 => []
  | k + 1 => fixP k ++ List.replicate (fixu k - (fixP k).length) (fixn k)
theorem fixP_le (k : Nat) (h : k < 4) : (fixP k).length ≤ fixu k ∧ fixu k ≤ 288 ∧ fixn k ≤ 15 := by
  have : ∀ k < 4, (fixP k).length ≤ fixu k ∧ fixu k ≤ 288 ∧ fixn k ≤ 15 := by decide +kernel
  exact this k h
theorem fix_facts : (fixP 4).length = 288 ∧ (∀ n ∈ fixP 4, n ≤ 15) ∧ newErr (fixP 4) false = 0 := by decide +kernel
theorem fixIdx (k : Nat) (hk : k < 4) (w : World) : (Instr.index 78 (.agg #[.int .i64 8, .int .i64 144, .int .i64 9, .int .i64 256, .int .i64 7, .int .i64 280, .int .i64 8, .int .i64 288]) (.int .i64 (k : Int))).run Tryd.prog w = .ok (.agg #[.int .i64 (fixn k : Int), .int .i64 (fixu k : Int)]) w :=
  match k, hk with
  | 0, _ => by kernel_rfl
  | 1, _ => by kernel_rfl
  | 2, _ => by kernel_rfl
  | 3, _ => by kernel_rfl
def fixL : List Nat := fixP 4
def fixD : List Nat := List.replicate 32 5
theorem fixD_facts : fixD.length = 32 ∧ (∀ n ∈ fixD, n ≤ 15) ∧ newErr fixD false = 0 := by decide +kernel
theorem nis_snoc_rep (l : List Nat) (m n : Nat) : l ++ List.replicate (m + 1) n = (l ++ List.replicate m n) ++ [n] := by rw [List.replicate_succ', List.append_assoc]
set_option maxHeartbeats 6400000 in
set_option maxRecDepth 100000 in
theorem fixedCoder_calls (w : World) :
    Calls Tryd.prog 25 #[] w fun e w' => ∃ kb cs cd, e = .returned (.pointer (some ⟨kb, 0, none⟩)) ∧ w.heap.size ≤ kb ∧ Blk w' kb [.pointer (some ⟨cs, 0, none⟩), .pointer (some ⟨cd, 0, none⟩), .pointer none, .slice none 0 0, .int .i64 0, .int .i64 0, .int .i64 0] 81 ∧
      CodeM w' (fun k => w.heap.size ≤ k) cs fixL ∧ CodeM w' (fun k => w.heap.size ≤ k) cd fixD ∧ Chg (fun _ => False) w w' := by
  go_enter Tryd.func25, Tryd.ntmps25
  go_wp2
  obtain ⟨ii, hii, hi0, hi1, hi2⟩ := info_parts infoInt
  go_loopw [1, 11] (fun o i W => ∃ k : Nat, k ≤ 4 ∧ i = .int .i64 (k : Int) ∧ Hid (W.ownsRow w.heap.size 3 1 o (fixP k).length (nis (fixP k))) ∧ Hid (Chg (fun _ => False) w W)) (fun _ i _ => 4 - (intOf i).toNat)
  case atStart => exact ⟨0, by omega, rfl, own_nil _ _ _ _, Chg.refl _ _⟩
  case round =>
    obtain ⟨k, hk, rfl, HO, HC⟩ := hrel
    by_cases hk4 : k < 4
    · have hidx := fixIdx k hk4
      have hle := fixP_le k hk4
      have hst : fixP (k + 1) = fixP k ++ List.replicate (fixu k - (fixP k).length) (fixn k) := rfl
      have HST := Lib.hid hst
      have hk5 : (k : Int) < 4 := by omega
      obtain ⟨hle1, hle2, hle3⟩ := hle
      obtain ⟨wo, rfl⟩ : ∃ wo : World, wo = wr := ⟨_, rfl⟩
      have hsz := HC.out.size
      have hal : Chg (fun _ => False) wo (wo.alloc (.cells #[.int .i64 (fixn k : Int), .int .i64 (fixu k : Int)] 77)) := (Chg.refl _ _).alloc _
      have hbk := Blk.new wo #[.int .i64 (fixn k : Int), .int .i64 (fixu k : Int)] 77
      have hoa := hal.own HO.out (fun _ _ h => h)
      have hca := HC.out.trans hal (fun _ h => h.elim)
      have hsa : (wo.alloc (.cells #[.int .i64 (fixn k : Int), .int .i64 (fixu k : Int)] 77)).heap.size = wo.heap.size + 1 := by simp
      have HBK := Lib.hid hbk
      have HOA := Lib.hid hoa
      have HCA := Lib.hid hca
      clear hst hbk hoa hca hal
      generalize fixP k = pl at *
      generalize fixn k = fn at *
      generalize fixu k = fu at *
      go_wp2
      generalize wo.alloc (.cells #[.int .i64 (fn : Int), .int .i64 (fu : Int)] 77) = wa at *
      clear hidx
      go_loopw [1] (fun o W => ∃ m : Nat, Hid (m ≤ fu - pl.length) ∧ Hid (W.ownsRow w.heap.size 3 1 o (pl.length + m) (nis (pl ++ List.replicate m fn))) ∧ Hid (Blk W wo.heap.size [.int .i64 (fn : Int), .int .i64 (fu : Int)] 77 ∧ (∀ i, o.ownBlock = some i → i ≠ wo.heap.size) ∧ wo.heap.size < W.heap.size ∧ Chg (fun _ => False) w W)) (fun o _ => fu - sliceLen o)
      case atStart => exact ⟨0, Nat.zero_le _, by show World.ownsRow _ _ _ _ _ _ _; simpa using HOA.out, HBK.out, fun i hi => by have := own_blk_lt HO.out i hi; omega, by omega, HCA.out⟩
      case round =>
        obtain ⟨m, HM, HX, HY⟩ := hrel
        have hm := HM.out
        have hb := HY.out.1
        have n0 := hb.cell 0
        have n1 := hb.cell 1
        simp at n0 n1
        obtain ⟨Ao, co, rfl⟩ := own_slice HX.out
        have hsw := HY.out.2.2.2.size
        have hbw := HY.out.2.2.1
        by_cases hfull : pl.length + m < fu
        · have hf2 : (pl.length : Int) + (m : Int) < (fu : Int) := by omega
          have hn1 : pl.length + m + 1 ≤ maxLen := by unfold maxLen; omega
          have hn2 : (pl.length + m + 1) * 8 ≤ 140737488355328 := by omega
          go_wp2_with (at_builtin; go_loud (refine wpList_append_lies _ rfl (.tmp 19) (.tmp 22) 22 rfl w.heap.size 3 ii _ 1 8 Tryd.underlying22 hii hi0 hi1 hi2 rfl (by omega) _ (pl.length + m) (nis (pl ++ List.replicate m fn)) rfl (HX.out.alloc _) ⟨wr.heap.size, 0, none⟩ 1 1 [.int .i64 (fn : Int)] rfl rfl (World.news_of_block (cs := #[.int .i64 (fn : Int)]) (t := 3) (fr := (0, 0)) (heap_alloc_new wr _)) (by simp [Value.oneCell']) (by omega) hn1 hn2 (by simp; omega) _ rfl ?_); intro gg cap w4 hown4 hgrow hat hlt4)
          go_roundw
          case rel =>
            refine ⟨m + 1, by show m + 1 ≤ _; omega, ?_, ?_⟩
            · rw [nis_snoc_rep, nis_append]; exact hown4
            · have h1 : Chg (fun _ => False) wr (wr.alloc (.cells #[.int .i64 (fn : Int)] 3)) := (Chg.refl _ _).alloc _
              have hz := h1.size
              refine ⟨(hb.chg h1 (fun h => h)).chg (Chg.of_grown hgrow) (fun e => HY.out.2.1 _ e rfl), fun i hi => ?_, Nat.lt_of_lt_of_le hbw (Nat.le_trans hz hgrow.size), (HY.out.2.2.2.alloc _).grown hgrow (fun i hi => Or.inr (own_base HX.out i hi))⟩
              have hig : gg = i := by simpa [Value.ownBlock] using hi
              subst hig
              rcases hat with ha | ha
              · exact HY.out.2.1 gg ha
              · simp at ha; omega
          case measure => simp [sliceLen]; omega
        · have hmf : m = fu - pl.length := by omega
          have HMF := Lib.hid hmf
          have hf2 : ¬ (pl.length : Int) + (m : Int) < (fu : Int) := by omega
          clear hmf
          go_wp2
          go_roundw
          case rel =>
            refine ⟨k + 1, by omega, by go_num, ?_, HY.out.2.2.2⟩
            rw [HST.out, ← HMF.out, List.length_append, List.length_replicate]
            exact HX.out
          case measure => simp [intOf]; omega
    · have hk4e : k = 4 := by omega
      have HK4 := Lib.hid hk4e
      have hk44 : ¬ (k : Int) < 4 := by omega
      clear hk4e
      have hsz := HC.out.size
      obtain ⟨wo, rfl⟩ : ∃ wo : World, wo = wr := ⟨_, rfl⟩
      go_wp2
      go_loopw [2, 25] (fun o i W => ∃ m : Nat, m ≤ 32 ∧ i = .int .i64 (m : Int) ∧ Hid (W.ownsRow wo.heap.size 3 1 o m (nis (List.replicate m 5))) ∧ Hid (Chg (fun _ => False) wo W)) (fun _ i _ => 32 - (intOf i).toNat)
      case atStart => exact ⟨0, by omega, rfl, own_nil _ _ _ _, Chg.refl _ _⟩
      case round =>
        obtain ⟨m, hm, rfl, HX, HY⟩ := hrel
        have hsy := HY.out.size
        by_cases hm32 : m < 32
        · have hm33 : (m : Int) < 32 := by omega
          have hn1 : m + 1 ≤ maxLen := by unfold maxLen; omega
          go_wp2_with (at_builtin; go_loud (refine wpList_append_lies _ rfl (.tmp 27) (.tmp 28) 22 rfl wo.heap.size 3 ii _ 1 8 Tryd.underlying22 hii hi0 hi1 hi2 rfl (by omega) _ m (nis (List.replicate m 5)) rfl (HX.out.alloc _) ⟨wr.heap.size, 0, none⟩ 1 1 [.int .i64 5] rfl rfl (World.news_of_block (cs := #[.int .i64 5]) (t := 3) (fr := (0, 0)) (heap_alloc_new wr _)) (by simp [Value.oneCell']) (by omega) hn1 (by omega) (by simp; omega) _ rfl ?_); intro gg cap w4 hown4 hgrow hat hlt4)
          go_roundw
          case rel =>
            refine ⟨m + 1, by omega, by go_num, ?_, (HY.out.alloc _).grown hgrow (fun i hi => Or.inr (own_base HX.out i hi))⟩
            rw [List.replicate_succ', nis_append]
            exact hown4
          case measure => simp [intOf]; omega
        · obtain rfl : m = 32 := by omega
          obtain ⟨wy, rfl⟩ : ∃ wy : World, wy = wr := ⟨_, rfl⟩
          have hal : Chg (fun _ => False) wy (wy.alloc (.cells #[.pointer none, .pointer none, .pointer none, .slice none 0 0, .int .i64 0, .int .i64 0, .int .i64 0] 81)) := (Chg.refl _ _).alloc _
          have hbk := Blk.new wy #[.pointer none, .pointer none, .pointer none, .slice none 0 0, .int .i64 0, .int .i64 0, .int .i64 0] 81
          have hrl := Row.of_own (S := fun i => w.heap.size ≤ i) (hal.own (HY.out.own HO.out (fun _ _ h => h)) (fun _ _ h => h)) (fun i hi => own_base HO.out i hi)
          have hrdn := Row.of_own (S := fun i => w.heap.size ≤ i ∧ i ≠ wy.heap.size) (hal.own HX.out (fun _ _ h => h)) (fun i hi => by have := own_base HX.out i hi; have := own_blk_lt HX.out i hi; omega)
          have hcy := (HC.out.trans HY.out (fun _ h => h.elim)).trans hal (fun _ h => h.elim)
          have hsa : wy.heap.size < (wy.alloc (.cells #[.pointer none, .pointer none, .pointer none, .slice none 0 0, .int .i64 0, .int .i64 0, .int .i64 0] 81)).heap.size := by simp
          go_wp2_with fail
          have hsy2 := HY.out.size
          generalize wy.alloc (.cells #[.pointer none, .pointer none, .pointer none, .slice none 0 0, .int .i64 0, .int .i64 0, .int .i64 0] 81) = wb at *
          have hrl2 := hrl
          rw [HK4.out, show fixP 4 = fixL from rfl] at hrl2
          refine (new_calls _ _ fixL false wb hrl2 fix_facts.2.1 (by rw [show fixL.length = 288 from fix_facts.1]; omega)).mono ?_
          rintro e w5 ⟨hc5, h5 | h5⟩
          · obtain ⟨_, cs, rfl, hM⟩ := h5
            have hb5 := hbk.chg hc5 (fun h => h)
            have k0 := hb5.cell 0
            have f0 := hb5.frozen 0
            have k1 := hb5.cell 1
            have f1 := hb5.frozen 1
            simp at k0 k1
            have hbs := hb5.set 0 (.pointer (some ⟨cs, 0, none⟩))
            have hx : Chg (fun i => i = wy.heap.size) w5 (w5.setCell ⟨wy.heap.size, 0, none⟩ (.pointer (some ⟨cs, 0, none⟩))) := (Chg.refl (fun i => i = wy.heap.size) w5).setCell (p := ⟨wy.heap.size, 0, none⟩) (Or.inl rfl) _
            have hs5 := hc5.size
            have hMx := hM.chg hx (fun i hi _ he => by omega)
            have hr7 := (hrdn.chg hc5 (fun _ _ _ h => h)).chg hx (fun i hi _ he => hi.2 he)
            rw [show List.replicate 32 5 = fixD from rfl, ← fixD_facts.1] at hr7
            have HR7 := Lib.hid hr7
            have hs6a := hx.size
            have HBS := Lib.hid hbs
            have HMX := Lib.hid hMx
            have HC6 := Lib.hid ((hcy.trans hc5 (fun _ h => h.elim)).trans hx (fun i hi => Or.inr (by omega)))
            clear hbs hx hMx hrl hrl2 hrdn hr7 hb5 k1 f1 hbk hal hcy hM hc5
            go_wp2_with fail
            clear k0 f0
            generalize w5.setCell ⟨wy.heap.size, 0, none⟩ (.pointer (some ⟨cs, 0, none⟩)) = w6 at *
            refine (new_calls _ _ fixD false w6 HR7.out fixD_facts.2.1 (by rw [fixD_facts.1]; omega)).mono ?_
            rintro e w7 ⟨hc7, h7 | h7⟩
            · obtain ⟨_, cd, rfl, hM7⟩ := h7
              have hb7 := HBS.out.chg hc7 (fun h => h)
              have k1 := hb7.cell 1
              have f1 := hb7.frozen 1
              simp at k1
              have hx : Chg (fun i => i = wy.heap.size) w7 (w7.setCell ⟨wy.heap.size, 1, none⟩ (.pointer (some ⟨cd, 0, none⟩))) := (Chg.refl (fun i => i = wy.heap.size) w7).setCell (p := ⟨wy.heap.size, 1, none⟩) (Or.inl rfl) _
              have hs7 := hc7.size
              have hs6 := HC6.out.size
              have HB8 := Lib.hid (hb7.set 1 (.pointer (some ⟨cd, 0, none⟩)))
              have HM8 := Lib.hid (hM7.chg hx (fun i hi _ he => by omega))
              have HM9 := Lib.hid ((HMX.out.tight.chg hc7 (fun _ _ _ h => h)).chg hx (fun i hi _ he => by omega))
              have HC8 := Lib.hid ((HC6.out.trans hc7 (fun _ h => h.elim)).trans hx (fun i hi => Or.inr (by omega)))
              clear hb7 hx hM7 hc7
              go_wp2
              go_returns
              exact ⟨wy.heap.size, cs, cd, rfl, by omega, HB8.out, HM9.out.mono (fun i hi => by omega), HM8.out.mono (fun i hi => by omega), HC8.out⟩
            · exact absurd fixD_facts.2.2 h7.1
          · exact absurd fix_facts.2.2 h5.1
end Go.Proofs.YtakoidkeaccgeaaDoor

/- lz: Length and Dist, the world told exactly. -/
namespace Go.Proofs.YtakoidkeaccgeaaDoor
open Go.RowKit

set_option maxHeartbeats 3200000 in
set_option maxRecDepth 100000 in
theorem find_exact (tab : Nat → Nat × Nat) (g n first last : Nat) (w : World) (eg : ∀ args w, (callFunc g args).run Tryd.prog w = .ok (.enter g args) w)
    (hp : ∀ s, first ≤ s → s ≤ last → ∀ W : World, Calls Tryd.prog g #[.int .i64 (s : Int)] W fun e w' => e = .returned (.tuple #[.int .i64 ((tab s).1 : Int), .int .i64 ((tab s).2 : Int), .bool true]) ∧ w' = W)
    (hn : n ≤ 100000) (hfl : first ≤ last) (hf : last ≤ 1000) (htab : ∀ s, first ≤ s → s ≤ last → (tab s).1 ≤ 100000) (h0 : (tab first).1 ≤ n) :
    Calls Tryd.prog 64 #[.int .i64 (n : Int), .int .i64 (first : Int), .int .i64 (last : Int), .func (.func g) #[] #[]] w fun e w' => e = .returned (xtra (findF tab n first (last - first))) ∧ ∃ O, w' = w.alloc O := by
  have HP := Lib.hid hp
  have HT := Lib.hid htab
  clear hp htab
  go_enter Tryd.func64, Tryd.ntmps64
  go_wp2
  go_loop [9] (fun i => ∃ k : Nat, first ≤ k ∧ k ≤ last ∧ i = .int .i64 (k : Int) ∧ Hid (findF tab n first (last - first) = findF tab n first (k - first))) (fun i => (intOf i).toNat)
  case atStart => exact ⟨last, hfl, Nat.le_refl _, rfl, rfl⟩
  case round =>
    obtain ⟨k, hk1, hk, rfl, HF⟩ := hrel
    have hb := HP.out k (by omega) (by omega)
    have ht := HT.out k (by omega) (by omega)
    by_cases hk0 : first < k
    · have hlt : (first : Int) < (k : Int) := by omega
      have hstep : findF tab n first (k - first) = if (tab k).1 ≤ n then (k, (tab k).2, n - (tab k).1) else findF tab n first (k - 1 - first) := by
        obtain ⟨m, rfl⟩ : ∃ m, k = first + (m + 1) := ⟨k - 1 - first, by omega⟩
        rw [Nat.add_sub_cancel_left, show first + (m + 1) - 1 - first = m by omega]
        rfl
      have HB := Lib.hid hb
      have HST := Lib.hid hstep
      clear hb hstep
      generalize hx : tab k = x at *
      obtain ⟨xa, xe⟩ := x
      clear hx
      dsimp only at ht
      go_wp2_with fail
      refine (HB.out _).mono ?_
      rintro e w' ⟨rfl, rfl⟩
      by_cases hle : xa ≤ n
      · have hle' : (xa : Int) ≤ (n : Int) := by omega
        go_wp2
        go_returns
        refine ⟨?_, _, rfl⟩
        rw [HF.out, HST.out, if_pos hle]
        exact ret_xtra rfl rfl (by dsimp only; omega)
      · have hle' : ¬ (xa : Int) ≤ (n : Int) := by omega
        go_wp2
        go_round
        case rel => exact ⟨k - 1, by omega, by omega, by congr 1; omega, by rw [HF.out, HST.out, if_neg hle]; rfl⟩
        case measure => simp [intOf]; omega
    · obtain rfl : k = first := by omega
      have hlt : ¬ (k : Int) < (k : Int) := by omega
      have hstep : findF tab n k (k - k) = (k, (tab k).2, n - (tab k).1) := by rw [Nat.sub_self]; rfl
      have HST := Lib.hid hstep
      have HB := Lib.hid hb
      clear hb hstep
      generalize hx : tab k = x at *
      obtain ⟨xa, xe⟩ := x
      dsimp only at ht h0
      have HX := Lib.hid hx
      clear hx
      go_wp2_with fail
      refine (HB.out _).mono ?_
      rintro e w' ⟨rfl, rfl⟩
      go_wp2
      go_returns
      refine ⟨?_, _, rfl⟩
      rw [HF.out, HST.out]
      exact ret_xtra rfl rfl (by dsimp only; omega)

set_option maxHeartbeats 3200000 in
set_option maxRecDepth 100000 in
theorem length_exact (n : Nat) (h1 : 3 ≤ n) (h2 : n ≤ 258) (w : World) : Calls Tryd.prog 42 #[.int .i64 (n : Int)] w fun e w' => e = .returned (xtra (lenSym n)) ∧ ∃ O O', w' = (w.alloc O).alloc O' := by
  have HF := Lib.hid (fun W => find_exact lenOf 65 n 257 285 W (enters_of Tryd.func65 (by kernel_rfl) rfl) (fun s a b W => lengthOf_calls s a b W) (by omega) (by omega) (by omega)
    (fun s a b => by have := lenOf_small s a b; omega) (by rw [show (lenOf 257).1 = 3 from by decide +kernel]; exact h1))
  have g1 : decide ((258 : Int) < (n : Int)) = false := by simp; omega
  go_enter Tryd.func42, Tryd.ntmps42
  go_wp2_with fail
  refine (HF.out _).mono ?_
  rintro e w' ⟨rfl, O, rfl⟩
  rw [show findF lenOf n 257 (285 - 257) = lenSym n from rfl]
  unfold xtra
  generalize hx : lenSym n = x at *
  have HX := Lib.hid hx
  clear hx
  go_wp2
  go_returns
  rw [HX.out]
  exact ⟨rfl, _, _, rfl⟩

set_option maxHeartbeats 3200000 in
set_option maxRecDepth 100000 in
theorem dist_exact (n : Nat) (h1 : 1 ≤ n) (h2 : n ≤ 32768) (w : World) : Calls Tryd.prog 43 #[.int .i64 (n : Int)] w fun e w' => e = .returned (xtra (distSym n)) ∧ ∃ O O', w' = (w.alloc O).alloc O' := by
  have HF := Lib.hid (fun W => find_exact distOf 66 n 0 29 W (enters_of Tryd.func66 (by kernel_rfl) rfl) (fun s a b W => distOf_calls s b W) (by omega) (by omega) (by omega)
    (fun s a b => by have := distOf_small s b; omega) (by rw [show (distOf 0).1 = 1 from by decide +kernel]; exact h1))
  have g1 : decide ((32768 : Int) < (n : Int)) = false := by simp; omega
  go_enter Tryd.func43, Tryd.ntmps43
  go_wp2_with fail
  refine (HF.out _).mono ?_
  rintro e w' ⟨rfl, O, rfl⟩
  rw [show findF distOf n 0 (29 - 0) = distSym n from rfl]
  unfold xtra
  generalize hx : distSym n = x at *
  have HX := Lib.hid hx
  clear hx
  go_wp2
  go_returns
  rw [HX.out]
  exact ⟨rfl, _, _, rfl⟩

end Go.Proofs.YtakoidkeaccgeaaDoor
