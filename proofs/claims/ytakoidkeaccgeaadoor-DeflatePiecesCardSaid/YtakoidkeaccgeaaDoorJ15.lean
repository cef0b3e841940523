/- block: tokens. -/
import Derived.Test.YtakoidkeaccgeaaDoorJ14
import Derived.Deep.DeepCutAuto
import Derived.Deep.RegionWith
import Derived.Deep.DrawnRows
namespace Go.Proofs.YtakoidkeaccgeaaDoor
open Go.RowKit Go.Shelf Go.Sort
attribute [local go_sem ↓] Go.wp_at_zero Go.wp_at_succ
variable {F : Nat → Option Value}
def XC (x : Nat × Nat × Nat) : List Value := [.int .i64 (x.1 : Int), .int .i64 (x.2.1 : Int), .int .u64 (x.2.2 : Int)]
theorem Blk.new_at (w : World) (cs : Array Value) (t : TypeId) (n : Nat) (l : List Value) (h : n = w.heap.size) (hl : cs.toList = l) : Blk (w.alloc (.cells cs t)) n l t := by
  subst h hl
  exact Blk.new w cs t

/-- The bits of a token. -/
def tokB (ls ld : List Nat) (t : Tok) : List Bool :=
  if t.len = 0 then cword ls t.byte
  else cword ls (lenSym t.len).1 ++ nb (lenSym t.len).2.1 (lenSym t.len).2.2 ++ cword ld (distSym t.dist).1 ++ nb (distSym t.dist).2.1 (distSym t.dist).2.2
def toksB (ls ld : List Nat) (l : List Tok) : Nat → List Bool
  | 0 => []
  | k + 1 => toksB ls ld l k ++ tokB ls ld (gT l k)
theorem cword_le (l : List Nat) (s : Nat) : (cword l s).length ≤ 15 := by
  unfold cword
  rw [nb_length]
  exact (asg_ok l 15 (Nat.le_refl _) s).2
theorem lenSym_small (n : Nat) (h1 : 3 ≤ n) (h2 : n ≤ 258) : (lenSym n).2.1 ≤ 5 ∧ (lenSym n).2.2 ≤ 258 := by
  have h := lenSym_ok n h1
  have hs := lenOf_small (lenSym n).1 h.1 h.2.1
  rw [h.2.2.1, h.2.2.2.2]
  omega
theorem distSym_small (n : Nat) (h1 : 1 ≤ n) (h2 : n ≤ 32768) : (distSym n).2.1 ≤ 13 ∧ (distSym n).2.2 ≤ 32768 := by
  have h := distSym_ok n h1
  have hs := distOf_small (distSym n).1 h.1
  rw [h.2.1, h.2.2.2]
  omega
theorem tokB_le (ls ld : List Nat) (t : Tok) (h : t.ok) : (tokB ls ld t).length ≤ 48 := by
  unfold tokB
  have c1 := cword_le ls t.byte
  have c2 := cword_le ls (lenSym t.len).1
  have c3 := cword_le ld (distSym t.dist).1
  split
  · omega
  · rename_i hn
    unfold Tok.ok at h
    have h1 := lenSym_small t.len (by omega) (by omega)
    have h2 := distSym_small t.dist (by omega) (by omega)
    simp only [List.length_append, nb_length]
    omega
theorem toksB_le (ls ld : List Nat) (l : List Tok) (h : ∀ t ∈ l, t.ok) : ∀ k, k ≤ l.length → (toksB ls ld l k).length ≤ 48 * k
  | 0, _ => by simp [toksB]
  | k + 1, hk => by
    have h1 := toksB_le ls ld l h k (by omega)
    have h2 := tokB_le ls ld (gT l k) (h _ (gT_mem l k (by omega)))
    rw [toksB, List.length_append]
    omega
set_option maxHeartbeats 12800000 in
set_option maxRecDepth 100000 in
theorem tokens_calls (kb cs cd b o : Nat) (S T : Nat → Prop) (rest : List Value) (v : Value) (ls ld : List Nat) (l : List Tok) (bs : List Bool) (w : World)
    (hk : Blk w kb (.pointer (some ⟨cs, 0, none⟩) :: .pointer (some ⟨cd, 0, none⟩) :: rest) 81) (hTk : T kb) (hcs : CodeM w T cs ls) (hcd : CodeM w T cd ld) (hr : Row w T 27 3 v l.length (tks l)) (hl : ∀ t ∈ l, t.ok)
    (hW : WB F w S b o bs) (hd : ∀ k, T k → ¬ (S k ∨ k = b)) (hT : ∀ k, T k → k < w.heap.size) (hlen : bs.length + 48 * l.length + 15 ≤ 281474976710656) :
    Calls Tryd.prog 26 #[.pointer (some ⟨kb, 0, none⟩), .pointer (some ⟨b, o, none⟩), v] w fun e w' => e = .returned (.tuple #[]) ∧
      WB F w' (fun i => S i ∨ w.heap.size ≤ i) b o (bs ++ toksB ls ld l l.length ++ cword ls 256) ∧ Chg (fun i => S i ∨ i = b) w w' := by
  obtain ⟨A, c0, rfl, hm, hA⟩ := hr.form
  have HK := Lib.hid hk
  have HCS := Lib.hid hcs
  have HCD := Lib.hid hcd
  have HR := Lib.hid hr
  have HL := Lib.hid hl
  have HW := Lib.hid hW
  have HD := Lib.hid hd
  have HT := Lib.hid hT
  have hbw := hW.lt
  unfold maxLen at hm
  clear hk hcs hcd hr hl hW hd hA hT
  go_enter Tryd.func26, Tryd.ntmps26
  go_wp2
  go_loopw [12] (fun i W => ∃ k : Nat, k ≤ l.length ∧ i = .int .i64 (k : Int) ∧ Hid (WB F W (fun i => S i ∨ w.heap.size ≤ i) b o (bs ++ toksB ls ld l k)) ∧ Hid (Chg (fun i => S i ∨ i = b) w W)) (fun i _ => l.length - (intOf i).toNat)
  case atStart => exact ⟨0, Nat.zero_le _, rfl, by show WB F _ _ _ _ _; simpa [toksB] using HW.out.mono (fun _ h => Or.inl h), Chg.refl _ _⟩
  case round =>
    obtain ⟨k, hk, rfl, HX, HC⟩ := hrel
    have hxl := toksB_le ls ld l HL.out k hk
    have hsz := HC.out.size
    have hdc := fun i (hi : T i) (_ : i < w.heap.size) => HD.out i hi
    have HKx := Lib.hid (HK.out.chg HC.out (HD.out kb hTk))
    have HSx := Lib.hid (HCS.out.chg HC.out hdc)
    have HDx := Lib.hid (HCD.out.chg HC.out hdc)
    by_cases hkl : k < l.length
    · have hrow := HR.out.chg HC.out hdc
      have htk := tks_at l k hkl
      rw [gT_eq l k hkl] at htk
      obtain ⟨g, off, rfl, hTg, hgl, hcell⟩ := hrow.at_ A c0 rfl (k * 3) (by omega)
      have hcell1 := hrow.cell (k * 3 + 1) (by omega)
      have hcell2 := hrow.cell (k * 3 + 2) (by omega)
      rw [htk.1] at hcell
      rw [htk.2.1, ← Nat.add_assoc] at hcell1
      rw [htk.2.2, ← Nat.add_assoc] at hcell2
      have hok := HL.out (gT l k) (gT_mem l k hkl)
      have hst : toksB ls ld l (k + 1) = toksB ls ld l k ++ tokB ls ld (gT l k) := rfl
      have hkl2 : (k : Int) < (l.length : Int) := by omega
      have htb : tokB ls ld (gT l k) = if (gT l k).len = 0 then cword ls (gT l k).byte
        else cword ls (lenSym (gT l k).len).1 ++ nb (lenSym (gT l k).len).2.1 (lenSym (gT l k).len).2.2 ++ cword ld (distSym (gT l k).dist).1 ++ nb (distSym (gT l k).dist).2.1 (distSym (gT l k).dist).2.2 := rfl
      rw [htb] at hst
      have HST := Lib.hid hst
      generalize gT l k = t at *
      have hbl0 : (bs ++ toksB ls ld l k).length + 48 ≤ 281474976710656 := by rw [List.length_append]; omega
      generalize hbx : bs ++ toksB ls ld l k = bx at *
      have hbl : bx.length + 48 ≤ 281474976710656 := hbl0
      have HBX := Lib.hid hbx
      obtain ⟨tb, tn, td⟩ := t
      dsimp only at *
      unfold Tok.ok at hok
      dsimp only at hok
      have hkbl := Nat.lt_of_lt_of_le (HT.out kb hTk) hsz
      have hal : Chg (fun _ => False) wr (wr.alloc (.cells #[.int .u8 (tb : Int), .int .i64 (tn : Int), .int .i64 (td : Int)] 27)) := (Chg.refl _ _).alloc _
      have hbk := Blk.new wr #[.int .u8 (tb : Int), .int .i64 (tn : Int), .int .i64 (td : Int)] 27
      have k0 : wr.cell? ⟨kb, 0, none⟩ = some (.pointer (some ⟨cs, 0, none⟩)) := HKx.out.cell 0
      have k1 : wr.cell? ⟨kb, 1, none⟩ = some (.pointer (some ⟨cd, 0, none⟩)) := HKx.out.cell 1
      have HBK := Lib.hid hbk
      have HAL := Lib.hid hal
      have HSW := Lib.hid (fun (W : World) (hc : Chg (fun _ => False) wr W) => HSx.out.chg hc (fun _ _ _ h => h))
      have HDW := Lib.hid (fun (W : World) (hc : Chg (fun _ => False) wr W) => HDx.out.chg hc (fun _ _ _ h => h))
      have HXW := Lib.hid (fun (W : World) (hc : Chg (fun _ => False) wr W) => HX.out.tight.chg hc (fun _ _ _ h => h) (fun h => h))
      have hbx' := HX.out.lt
      have hkw := HT.out kb hTk
      have hkS := HD.out kb hTk
      have HKE : Hid (∀ (T' : Nat → Prop) (W0 W : World), W0 = (wr.alloc (.cells #[.int .u8 (tb : Int), .int .i64 (tn : Int), .int .i64 (td : Int)] 27)).drew ∨ Chg (fun _ => False) (wr.alloc (.cells #[.int .u8 (tb : Int), .int .i64 (tn : Int), .int .i64 (td : Int)] 27)) W0 → (∀ i, T' i → ((S i ∨ w.heap.size ≤ i) ∧ i < wr.heap.size) ∨ i = b) → Chg T' W0 W →
          W.cell? ⟨kb, 0, none⟩ = some (.pointer (some ⟨cs, 0, none⟩)) ∧ W.cell? ⟨kb, 1, none⟩ = some (.pointer (some ⟨cd, 0, none⟩)) ∧ W.cell? ⟨wr.heap.size, 0, none⟩ = some (.int .u8 (tb : Int)) ∧ W.cell? ⟨wr.heap.size, 1, none⟩ = some (.int .i64 (tn : Int)) ∧ W.cell? ⟨wr.heap.size, 2, none⟩ = some (.int .i64 (td : Int))) := by
        show ∀ _, _
        intro T' W0 W h0 hT' hc
        have h00 : Chg (fun _ => False) (wr.alloc (.cells #[.int .u8 (tb : Int), .int .i64 (tn : Int), .int .i64 (td : Int)] 27)) W0 := by
          rcases h0 with rfl | h0
          · exact (Chg.refl _ _).drew
          · exact h0
        have q1 := (HKx.out.chg (HAL.out.trans h00 (fun _ h => h.elim)) (fun h => h)).chg hc (fun h => (hT' kb h).elim (fun h => h.1.elim (fun h => hkS (Or.inl h)) (fun h => by omega)) (fun h => hkS (Or.inr h)))
        have q2 := (HBK.out.chg h00 (fun h => h)).chg hc (fun h => (hT' _ h).elim (fun h => by omega) (fun h => by omega))
        exact ⟨q1.cell 0, q1.cell 1, q2.cell 0, q2.cell 1, q2.cell 2⟩
      clear hrow htk hst htb hbx hbk hal hdc
      by_cases hn0 : tn = 0
      · obtain ⟨hd0, hb0⟩ : td = 0 ∧ tb < 256 := by omega
        subst hn0 hd0
        go_wp2_with fail
        have wb : IntKind.i64.wrap (tb : Int) = (tb : Int) := IntWalk.i64_in _ (by omega)
        go_region_held3 (fun w' => w'.cell? ⟨kb, 0, none⟩ = some (.pointer (some ⟨cs, 0, none⟩)) ∧ w'.cell? ⟨wr.heap.size, 0, none⟩ = some (.int .u8 (tb : Int)))
          (first | go_keep | (go_split_ands; refine ⟨?_, ?_⟩ <;> first | exact (HKE.out _ _ _ (Or.inl rfl) (fun _ h => h) hc5).1 | exact (HKE.out _ _ _ (Or.inl rfl) (fun _ h => h) hc5).2.2.1))
          ((go_at_call 41; refine (codeWrite_calls cs b o (fun i => (S i ∨ w.heap.size ≤ i) ∧ i < wr.heap.size) T ls tb bx _ (HSW.out _ HAL.out.drew) (HXW.out _ HAL.out.drew) (by omega)).mono ?_; rintro e w5 ⟨rfl, hW5, hc5⟩))
        have HW5 := Lib.hid hW5
        have HC5 := Lib.hid hc5
        clear hW5 hc5
        go_wp2
        go_roundw
        case rel =>
          refine ⟨k + 1, by omega, rfl, ?_, ?_⟩
          · show WB F _ _ _ _ _
            rw [HST.out, ← List.append_assoc, HBX.out]
            simpa using HW5.out.mono (fun i h => h.elim And.left (fun h => Or.inr (Nat.le_trans hsz (Nat.le_trans HAL.out.size h))))
          · show Chg _ _ _
            exact (HC.out.trans HAL.out.drew (fun _ h => h.elim)).trans HC5.out (fun i h => h.elim (fun h => h.1.elim (fun h => Or.inl (Or.inl h)) Or.inr) (fun h => Or.inl (Or.inr h)))
        case measure => dsimp only [intOf]; omega
      · obtain ⟨hb0, hn3, hn258, hd1, hd2⟩ : tb = 0 ∧ 3 ≤ tn ∧ tn ≤ 258 ∧ 1 ≤ td ∧ td ≤ 32768 := by omega
        have hls := lenSym_ok tn hn3
        have hds := distSym_ok td hd1
        have hlm := lenSym_small tn hn3 hn258
        have hdm := distSym_small td hd1 hd2
        have hnb : ((tn : Int) == 0) = false := by simp; omega
        have HLM := Lib.hid (fun W => length_exact tn hn3 hn258 W)
        have HDM := Lib.hid (fun W => dist_exact td hd1 hd2 W)
        unfold xtra at HLM HDM
        generalize hlx : lenSym tn = x at *
        generalize hdx : distSym td = y at *
        obtain ⟨x1, x2, x3⟩ := x
        obtain ⟨y1, y2, y3⟩ := y
        dsimp only at HLM HDM hls hds hlm hdm HST
        clear hls hds
        subst hb0
        have htn0 : tn ≠ 0 := by omega
        have HTN := Lib.hid htn0
        clear htn0 hn0
        go_wp2_with fail
        go_cut [8, 9] (fun s8 s9 wx => ∃ b8 b9 : Nat, s8 = .pointer (some ⟨b8, 0, none⟩) ∧ s9 = .pointer (some ⟨b9, 0, none⟩) ∧ wr.heap.size < b8 ∧ wr.heap.size < b9 ∧ b8 ≠ b9 ∧ Hid (Blk wx b8 (XC (x1, x2, x3)) 72) ∧ Hid (Blk wx b9 (XC (y1, y2, y3)) 72) ∧ Hid (Chg (fun _ => False) wr wx))
        case first =>
          have HKC : Hid (∀ W : World, Chg (fun _ => False) (wr.alloc (.cells #[.int .u8 0, .int .i64 (tn : Int), .int .i64 (td : Int)] 27)) W → W.cell? ⟨wr.heap.size, 1, none⟩ = some (.int .i64 (tn : Int)) ∧ W.cell? ⟨wr.heap.size, 2, none⟩ = some (.int .i64 (td : Int))) := fun W hc => ⟨((Blk.new wr _ _).chg hc (fun h => h)).cell 1, ((Blk.new wr _ _).chg hc (fun h => h)).cell 2⟩
          clear HK HCS HCD HR HL HW HD HT HX HC HKx HSx HDx HST HBX HBK HSW HDW HXW HKE HAL hlm hdm hlx hdx hcell hcell1 hcell2 k0 k1 hnb HTN
          go_region_held3 (fun w' => w'.cell? ⟨wr.heap.size, 1, none⟩ = some (.int .i64 (tn : Int)) ∧ w'.cell? ⟨wr.heap.size, 2, none⟩ = some (.int .i64 (td : Int)))
            ((refine HKC.out _ ?_; (repeat first | exact Chg.refl _ _ | refine Chg.drew ?_ | refine Chg.alloc ?_ _ | refine Chg.setCell ?_ (Or.inr (by simp; try omega)) _)))
            (first | (go_at_call 42; refine (HLM.out _).mono ?_; rintro e w5 ⟨rfl, O5, P5, rfl⟩) | (go_at_call 43; refine (HDM.out _).mono ?_; rintro e w6 ⟨rfl, O6, P6, rfl⟩))
          all_goals (go_wp2_with fail)
          all_goals (go_meet)
          all_goals
            refine ⟨_, _, rfl, rfl, by omega, by omega, by omega, ?_, ?_, ?_⟩
            · show Blk _ _ _ _
              (repeat first | exact Blk.new_at _ _ _ _ _ (by simp) rfl | refine Blk.drew ?_ | refine Blk.alloc ?_ _)
            · show Blk _ _ _ _
              (repeat first | exact Blk.new_at _ _ _ _ _ (by simp) rfl | refine Blk.drew ?_ | refine Blk.alloc ?_ _)
            · show Chg _ _ _
              (repeat first | exact Chg.refl _ _ | refine Chg.drew ?_ | refine Chg.alloc ?_ _)
        case rest =>
          obtain ⟨b8, b9, rfl, rfl, h8, h9, h89, HB8, HB9, HCW⟩ := hcut
          have hwz := HCW.out.size
          have h8w := HB8.out.lt
          have h9w := HB9.out.lt
          have HX0 := Lib.hid (HXW.out wc HCW.out)
          have HKP : Hid (∀ W : World, Chg (fun i => (((S i ∨ w.heap.size ≤ i) ∧ i < wr.heap.size) ∨ wc.heap.size ≤ i) ∨ i = b) wc W →
              W.cell? ⟨kb, 0, none⟩ = some (.pointer (some ⟨cs, 0, none⟩)) ∧ W.cell? ⟨kb, 1, none⟩ = some (.pointer (some ⟨cd, 0, none⟩)) ∧ Blk W b8 (XC (x1, x2, x3)) 72 ∧ Blk W b9 (XC (y1, y2, y3)) 72 ∧ CodeM W T cs ls ∧ CodeM W T cd ld) := by
            show ∀ _, _
            intro W hc
            have hT2 : ∀ i, T i → i < wc.heap.size → ¬ ((((S i ∨ w.heap.size ≤ i) ∧ i < wr.heap.size) ∨ wc.heap.size ≤ i) ∨ i = b) := by
              intro i hi hl
              have h1 := HT.out i hi
              have h2 := HD.out i hi
              rintro ((⟨h3 | h3, _⟩ | h3) | h3)
              · exact h2 (Or.inl h3)
              · omega
              · omega
              · exact h2 (Or.inr h3)
            have q := (HKx.out.chg HCW.out (fun h => h)).chg hc (hT2 kb hTk (by omega))
            exact ⟨q.cell 0, q.cell 1, HB8.out.chg hc (by omega), HB9.out.chg hc (by omega), (HSW.out wc HCW.out).chg hc hT2, (HDW.out wc HCW.out).chg hc hT2⟩
          have hbx0 := HX0.out.lt
          have hq0 := HKP.out wc (Chg.refl _ _)
          have k0' := hq0.1
          have k8' : wc.cell? ⟨b8, 0, none⟩ = some (.int .i64 (x1 : Int)) := hq0.2.2.1.cell 0
          have HQ0 := Lib.hid hq0
          clear hq0 HKx HSx HDx HSW HDW HXW HKE HBK HAL HLM HDM hcell hcell1 hcell2 k0 k1 hlx hdx
          go_wp2_with fail
          go_region_held3 (fun w' => w'.cell? ⟨kb, 0, none⟩ = some (.pointer (some ⟨cs, 0, none⟩)) ∧ w'.cell? ⟨b8, 0, none⟩ = some (.int .i64 (x1 : Int)))
            (first | (go_keep; done) | (refine ⟨(HKP.out _ (((Chg.refl _ wc).drew).trans hc5 ?_)).1, (HKP.out _ (((Chg.refl _ wc).drew).trans hc5 ?_)).2.2.1.cell 0⟩ <;> exact fun i h => Or.inl (h.elim (fun h => Or.inl (Or.inl h)) Or.inr)))
            ((go_at_call 41; refine (codeWrite_calls cs b o (fun i => (S i ∨ w.heap.size ≤ i) ∧ i < wr.heap.size) T ls x1 bx _ (HKP.out _ (Chg.refl _ wc).drew).2.2.2.2.1 (HX0.out.chg (Chg.refl (fun _ => False) wc).drew (fun _ _ _ h => h) (fun h => h)) (by omega)).mono ?_; rintro e w5 ⟨rfl, hW5, hc5⟩))
          have HC5 : Hid (Chg (fun i => (((S i ∨ w.heap.size ≤ i) ∧ i < wr.heap.size) ∨ wc.heap.size ≤ i) ∨ i = b) wc w5) := ((Chg.refl _ wc).drew).trans hc5 (fun i h => Or.inl (h.elim (fun h => Or.inl (Or.inl h)) Or.inr))
          have HW5 : Hid (WB F w5 (fun i => ((S i ∨ w.heap.size ≤ i) ∧ i < wr.heap.size) ∨ wc.heap.size ≤ i) b o (bx ++ cword ls x1)) := hW5.mono (fun i h => h)
          have hz5 : wc.heap.size ≤ w5.heap.size := hc5.size
          have hq5 := HKP.out w5 HC5.out
          have k82 : w5.cell? ⟨b8, 2, none⟩ = some (.int .u64 (x3 : Int)) := hq5.2.2.1.cell 2
          have k81 : w5.cell? ⟨b8, 1, none⟩ = some (.int .i64 (x2 : Int)) := hq5.2.2.1.cell 1
          clear hW5 hc5 hq5 k0' k8' HQ0
          have hwx1 := cword_le ls x1
          have hl5 : (bx ++ cword ls x1).length ≤ 281474976710656 := by rw [List.length_append]; omega
          go_wp2_with fail
          (with_reducible refine (writeA_calls b o _ _ x3 x2 w5 HW5.out (by omega) (by omega) hl5).mono ?_)
          rintro e w6 ⟨rfl, hW6, hc6⟩
          have HC6 : Hid (Chg (fun i => (((S i ∨ w.heap.size ≤ i) ∧ i < wr.heap.size) ∨ wc.heap.size ≤ i) ∨ i = b) wc w6) := HC5.out.trans hc6 (fun i h => Or.inl h)
          have HW6 : Hid (WB F w6 (fun i => ((S i ∨ w.heap.size ≤ i) ∧ i < wr.heap.size) ∨ wc.heap.size ≤ i) b o (bx ++ cword ls x1 ++ nb x2 x3)) := hW6.mono (fun i h => h.elim id (fun h => Or.inr (by omega)))
          have hz6 : wc.heap.size ≤ w6.heap.size := Nat.le_trans hz5 hc6.size
          have hq6 := HKP.out w6 HC6.out
          have k1' : w6.cell? ⟨kb, 1, none⟩ = some (.pointer (some ⟨cd, 0, none⟩)) := hq6.2.1
          have k90 : w6.cell? ⟨b9, 0, none⟩ = some (.int .i64 (y1 : Int)) := hq6.2.2.2.1.cell 0
          clear hW6 hc6 hq6 k82 k81
          have hl6 : (bx ++ cword ls x1 ++ nb x2 x3).length ≤ 281474976710656 := by rw [List.length_append, nb_length, List.length_append]; omega
          have HQ6 := Lib.hid (HKP.out w6.drew HC6.out.drew)
          have HW6d : Hid (WB F w6.drew (fun i => ((S i ∨ w.heap.size ≤ i) ∧ i < wr.heap.size) ∨ wc.heap.size ≤ i) b o (bx ++ cword ls x1 ++ nb x2 x3)) := HW6.out.chg (Chg.refl (fun _ => False) w6).drew (fun _ _ _ h => h) (fun h => h)
          go_wp2_with fail
          go_region_held3 (fun w' => w'.cell? ⟨kb, 1, none⟩ = some (.pointer (some ⟨cd, 0, none⟩)) ∧ w'.cell? ⟨b9, 0, none⟩ = some (.int .i64 (y1 : Int)))
            (first | (go_keep; done) | (refine ⟨(HKP.out _ (HC6.out.drew.trans hc7 ?_)).2.1, (HKP.out _ (HC6.out.drew.trans hc7 ?_)).2.2.2.1.cell 0⟩ <;> exact fun i h => Or.inl h))
            ((go_at_call 41; refine (codeWrite_calls cd b o _ T ld y1 _ _ HQ6.out.2.2.2.2.2 HW6d.out hl6).mono ?_; rintro e w7 ⟨rfl, hW7, hc7⟩))
          have HC7 : Hid (Chg (fun i => (((S i ∨ w.heap.size ≤ i) ∧ i < wr.heap.size) ∨ wc.heap.size ≤ i) ∨ i = b) wc w7) := HC6.out.drew.trans hc7 (fun i h => Or.inl h)
          have HW7 : Hid (WB F w7 (fun i => ((S i ∨ w.heap.size ≤ i) ∧ i < wr.heap.size) ∨ wc.heap.size ≤ i) b o (bx ++ cword ls x1 ++ nb x2 x3 ++ cword ld y1)) := hW7.mono (fun i h => h.elim id (fun h => Or.inr (Nat.le_trans hz6 h)))
          have hz7 : wc.heap.size ≤ w7.heap.size := Nat.le_trans hz6 hc7.size
          have hq7 := HKP.out w7 HC7.out
          have k92 : w7.cell? ⟨b9, 2, none⟩ = some (.int .u64 (y3 : Int)) := hq7.2.2.2.1.cell 2
          have k91 : w7.cell? ⟨b9, 1, none⟩ = some (.int .i64 (y2 : Int)) := hq7.2.2.2.1.cell 1
          clear hW7 hc7 hq7 k1' k90 HQ6 HW6d
          have hwy1 := cword_le ld y1
          have hl7 : (bx ++ cword ls x1 ++ nb x2 x3 ++ cword ld y1).length ≤ 281474976710656 := by rw [List.length_append, List.length_append, nb_length, List.length_append]; omega
          go_wp2_with fail
          (with_reducible refine (writeA_calls b o _ _ y3 y2 w7 HW7.out (by omega) (by omega) hl7).mono ?_)
          rintro e w8 ⟨rfl, hW8, hc8⟩
          have HC8 : Hid (Chg (fun i => (((S i ∨ w.heap.size ≤ i) ∧ i < wr.heap.size) ∨ wc.heap.size ≤ i) ∨ i = b) wc w8) := HC7.out.trans hc8 (fun i h => Or.inl h)
          have HW8 : Hid (WB F w8 (fun i => ((S i ∨ w.heap.size ≤ i) ∧ i < wr.heap.size) ∨ wc.heap.size ≤ i) b o (bx ++ cword ls x1 ++ nb x2 x3 ++ cword ld y1 ++ nb y2 y3)) := hW8.mono (fun i h => h.elim id (fun h => Or.inr (by omega)))
          clear hW8 hc8 k92 k91
          go_wp2
          go_roundw
          case rel =>
            refine ⟨k + 1, by omega, rfl, ?_, ?_⟩
            · show WB F _ _ _ _ _
              have h9 := HW8.out.mono (fun i h => h.elim And.left (fun h => Or.inr (by omega)) : ∀ i, _ → S i ∨ w.heap.size ≤ i)
              rw [← HBX.out] at h9
              rw [HST.out, if_neg HTN.out]
              simpa only [List.append_assoc] using h9
            · show Chg _ _ _
              exact (HC.out.trans HCW.out (fun _ h => h.elim)).trans HC8.out (fun i h => h.elim (fun h => h.elim (fun h => h.1.elim (fun h => Or.inl (Or.inl h)) Or.inr) (fun h => Or.inr (by omega))) (fun h => Or.inl (Or.inr h)))
          case measure => dsimp only [intOf]; omega
    · obtain rfl : k = l.length := by omega
      have hne : ¬ (l.length : Int) < (l.length : Int) := by omega
      have k0 : wr.cell? ⟨kb, 0, none⟩ = some (.pointer (some ⟨cs, 0, none⟩)) := HKx.out.cell 0
      have hbl0 : (bs ++ toksB ls ld l l.length).length ≤ 281474976710656 := by rw [List.length_append]; omega
      go_wp2_with fail
      refine (codeWrite_calls cs b o (fun i => S i ∨ w.heap.size ≤ i) T ls 256 (bs ++ toksB ls ld l l.length) _ HSx.out HX.out hbl0).mono ?_
      rintro e w5 ⟨rfl, hW5, hc5⟩
      go_wp2
      go_end0
      refine ⟨rfl, hW5.mono (fun i h => h.elim id (fun h => Or.inr (Nat.le_trans hsz h))), HC.out.trans hc5 (fun i h => h.elim (fun h => h.elim (fun h => Or.inl (Or.inl h)) Or.inr) (fun h => Or.inl (Or.inr h)))⟩
end Go.Proofs.YtakoidkeaccgeaaDoor
