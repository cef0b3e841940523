/- slices.IndexFunc and ContainsFunc where nothing is found. -/
import Derived.Test.YtakoidkeaccgeaaDoorJ1
import Derived.Test.YtakoidkeaccgeaaDoorProg
namespace Go.Proofs.YtakoidkeaccgeaaDoor
open Go.RowKit Go.Shelf

set_option maxHeartbeats 1600000 in
set_option maxRecDepth 100000 in
theorem indexFuncI_calls (g : Nat) (S : Nat → Prop) (v : Value) (l : List Nat) (w : World) (h : Row w S 3 1 v l.length (nis l))
    (hp : ∀ n ∈ l, ∀ W : World, Calls Tryd.prog g #[.int .i64 ((n : Nat) : Int)] W fun e w' => e = .returned (.bool false) ∧ w' = W) (eg : ∀ args w, (callFunc g args).run Tryd.prog w = .ok (.enter g args) w) :
    Calls Tryd.prog 56 #[v, .func (.func g) #[] #[]] w fun e w' => e = .returned (.int .i64 (-1)) ∧ w' = w := by
  obtain ⟨A, c, rfl, hm, hA⟩ := h.form
  have HA := Lib.hid hA
  have HR := Lib.hid h
  have HP := Lib.hid hp
  clear hA h hp
  unfold maxLen at hm
  go_enter Tryd.func56, Tryd.ntmps56
  go_wp2
  go_loop [8] (fun i => ∃ k : Nat, k ≤ l.length ∧ i = .int .i64 (k : Int)) (fun i => l.length - (intOf i).toNat)
  case atStart => exact ⟨0, Nat.zero_le _, rfl⟩
  case round =>
    obtain ⟨k, hk, rfl⟩ := hrel
    by_cases hlt : k < l.length
    · obtain ⟨bg, off, rfl, _, hbl, hcell⟩ := HR.out.at_ A c rfl k (by omega)
      rw [nis_at l k hlt] at hcell
      have hb := HP.out (gN l k) (gN_mem l k hlt)
      have HB := Lib.hid hb
      clear hb
      have hlt2 : (k : Int) < (l.length : Int) := by omega
      go_wp2_with fail
      refine (HB.out _).mono ?_
      rintro e w' ⟨rfl, rfl⟩
      go_wp2
      go_round
      case rel => exact ⟨k + 1, by omega, by go_num⟩
      case measure => simp [intOf]; omega
    · go_wp2
      go_returns
      exact ⟨rfl, rfl⟩
set_option maxHeartbeats 1600000 in
set_option maxRecDepth 100000 in
theorem containsFuncI_calls (g : Nat) (S : Nat → Prop) (v : Value) (l : List Nat) (w : World) (h : Row w S 3 1 v l.length (nis l))
    (hp : ∀ n ∈ l, ∀ W : World, Calls Tryd.prog g #[.int .i64 ((n : Nat) : Int)] W fun e w' => e = .returned (.bool false) ∧ w' = W) (eg : ∀ args w, (callFunc g args).run Tryd.prog w = .ok (.enter g args) w) :
    Calls Tryd.prog 33 #[v, .func (.func g) #[] #[]] w fun e w' => e = .returned (.bool false) ∧ w' = w := by
  have HC := Lib.hid (indexFuncI_calls g S v l w h hp eg)
  clear hp h
  go_enter Tryd.func33, Tryd.ntmps33
  go_wp2_with (refine HC.out.mono ?_; rintro e w' ⟨rfl, rfl⟩)
  go_returns
  exact ⟨rfl, rfl⟩

/-- Tokens as cells. -/
structure Tok where
  byte : Nat
  len : Nat
  dist : Nat
def tkc (t : Tok) : List Value := [.int .u8 (t.byte : Int), .int .i64 (t.len : Int), .int .i64 (t.dist : Int)]
def tks (l : List Tok) : List Value := l.flatMap tkc
theorem tks_length (l : List Tok) : (tks l).length = l.length * 3 := by
  induction l with
  | nil => rfl
  | cons t l ih =>
    rw [show tks (t :: l) = tkc t ++ tks l from rfl, List.length_append, ih, List.length_cons, show (tkc t).length = 3 from rfl]; omega
theorem tks_append (l m : List Tok) : tks (l ++ m) = tks l ++ tks m := by simp [tks]
theorem tks_at : ∀ (l : List Tok) (i : Nat) (h : i < l.length), (tks l)[i * 3]? = some (.int .u8 ((l[i]'h).byte : Int)) ∧ (tks l)[i * 3 + 1]? = some (.int .i64 ((l[i]'h).len : Int)) ∧ (tks l)[i * 3 + 2]? = some (.int .i64 ((l[i]'h).dist : Int))
  | t :: l, 0, _ => by simp [tks, tkc]
  | t :: l, i + 1, h => by
    have := tks_at l i (by simpa using h)
    have e : tks (t :: l) = tkc t ++ tks l := by simp [tks]
    have e3 : (tkc t).length = 3 := rfl
    rw [e, show (i + 1) * 3 = 3 + i * 3 by omega]
    refine ⟨?_, ?_, ?_⟩
    · rw [List.getElem?_append_right (by omega), e3, show 3 + i * 3 - 3 = i * 3 by omega]; exact this.1
    · rw [List.getElem?_append_right (by omega), e3, show 3 + i * 3 + 1 - 3 = i * 3 + 1 by omega]; exact this.2.1
    · rw [List.getElem?_append_right (by omega), e3, show 3 + i * 3 + 2 - 3 = i * 3 + 2 by omega]; exact this.2.2
/-- May a token be? -/
def Tok.ok (t : Tok) : Prop := (t.len = 0 ∧ t.dist = 0 ∧ t.byte < 256) ∨ (t.byte = 0 ∧ 3 ≤ t.len ∧ t.len ≤ 258 ∧ 1 ≤ t.dist ∧ t.dist ≤ 32768)
def tka (t : Tok) : Value := .agg #[.int .u8 (t.byte : Int), .int .i64 (t.len : Int), .int .i64 (t.dist : Int)]

set_option maxHeartbeats 1600000 in
set_option maxRecDepth 100000 in
theorem good_calls (t : Tok) (ht : t.ok) (w : World) : Calls Tryd.prog 37 #[tka t] w fun e w' => e = .returned (.bool true) ∧ Chg (fun _ => False) w w' := by
  obtain ⟨b, n, d⟩ := t
  unfold tka
  unfold Tok.ok at ht
  dsimp only at ht ⊢
  by_cases h0 : n = 0
  · subst h0
    obtain rfl : d = 0 := by omega
    go_enter Tryd.func37, Tryd.ntmps37
    go_wp2
    go_returns
    exact ⟨rfl, ((Chg.refl _ _).alloc _)⟩
  · obtain ⟨hb, h1, h2, h3, h4⟩ : b = 0 ∧ 3 ≤ n ∧ n ≤ 258 ∧ 1 ≤ d ∧ d ≤ 32768 := by omega
    subst hb
    have hne : ((n : Int) == 0) = false := by simpa using h0
    have hd4 : decide ((d : Int) ≤ 32768) = true := by simp; omega
    go_enter Tryd.func37, Tryd.ntmps37
    go_wp2
    go_returns
    exact ⟨rfl, ((Chg.refl _ _).alloc _)⟩

set_option maxHeartbeats 1600000 in
set_option maxRecDepth 100000 in
theorem mayBad_calls (t : Tok) (ht : t.ok) (w : World) : Calls Tryd.prog 36 #[tka t] w fun e w' => e = .returned (.bool false) ∧ Chg (fun _ => False) w w' := by
  have HG := fun W => good_calls t ht W
  unfold tka at HG ⊢
  have H := Lib.hid HG
  clear HG
  go_enter Tryd.func36, Tryd.ntmps36
  go_wp2_with fail
  refine (H.out _).mono ?_
  rintro e w' ⟨rfl, hC⟩
  go_wp2
  go_returns
  exact ⟨rfl, ((Chg.refl _ _).alloc _).trans hC (fun _ h => h.elim)⟩

set_option maxHeartbeats 1600000 in
set_option maxRecDepth 100000 in
theorem indexFuncT_calls (S : Nat → Prop) (v : Value) (l : List Tok) (w : World) (h : Row w S 27 3 v l.length (tks l)) (hl : ∀ t ∈ l, t.ok) :
    Calls Tryd.prog 57 #[v, .func (.func 36) #[] #[]] w fun e w' => e = .returned (.int .i64 (-1)) ∧ Chg (fun _ => False) w w' := by
  obtain ⟨A, c, rfl, hm, hA⟩ := h.form
  have HR := Lib.hid h
  have HP := Lib.hid hl
  have eg : ∀ args w, (callFunc 36 args).run Tryd.prog w = .ok (.enter 36 args) w := enters_of Tryd.func36 (by kernel_rfl) rfl
  clear hA h hl
  unfold maxLen at hm
  go_enter Tryd.func57, Tryd.ntmps57
  go_wp2
  go_loopw [8] (fun i W => ∃ k : Nat, k ≤ l.length ∧ i = .int .i64 (k : Int) ∧ Chg (fun _ => False) w W) (fun i _ => l.length - (intOf i).toNat)
  case atStart => exact ⟨0, Nat.zero_le _, rfl, Chg.refl _ _⟩
  case round =>
    rename_i W
    obtain ⟨k, hk, rfl, hC⟩ := hrel
    by_cases hlt : k < l.length
    · have HR2 := HR.out.chg hC (fun _ _ _ h => h)
      have htk := tks_at l k hlt
      obtain ⟨bg, off, rfl, _, hbl, hcell⟩ := HR2.at_ A c rfl (k * 3) (by omega)
      have hcell1 := HR2.cell (k * 3 + 1) (by omega)
      have hcell2 := HR2.cell (k * 3 + 2) (by omega)
      rw [htk.1] at hcell
      rw [htk.2.1, ← Nat.add_assoc] at hcell1
      rw [htk.2.2, ← Nat.add_assoc] at hcell2
      have hb := HP.out l[k] (List.getElem_mem hlt)
      have HB := Lib.hid hb
      clear hb HR2 htk
      have hlt2 : (k : Int) < (l.length : Int) := by omega
      go_wp2_with fail
      refine (mayBad_calls _ HB.out _).mono ?_
      rintro e w' ⟨rfl, hC2⟩
      go_wp2
      go_roundw
      case rel => exact ⟨k + 1, by omega, by go_num, hC.trans hC2 (fun _ h => h.elim)⟩
      case measure => simp [intOf]; omega
    · go_wp2
      go_returns
      exact ⟨rfl, hC⟩
set_option maxHeartbeats 1600000 in
set_option maxRecDepth 100000 in
theorem containsFuncT_calls (S : Nat → Prop) (v : Value) (l : List Tok) (w : World) (h : Row w S 27 3 v l.length (tks l)) (hl : ∀ t ∈ l, t.ok) :
    Calls Tryd.prog 38 #[v, .func (.func 36) #[] #[]] w fun e w' => e = .returned (.bool false) ∧ Chg (fun _ => False) w w' := by
  have HC := Lib.hid (indexFuncT_calls S v l w h hl)
  clear h hl
  go_enter Tryd.func38, Tryd.ntmps38
  go_wp2_with fail
  refine HC.out.mono ?_
  rintro e w' ⟨rfl, hC⟩
  go_wp2
  go_returns
  exact ⟨rfl, hC⟩
end Go.Proofs.YtakoidkeaccgeaaDoor
