/- deflate: the encoder in memory; a part's block. -/
import Derived.Test.YtakoidkeaccgeaaDoorJ17
import Derived.Test.YtakoidkeaccgeaaDoorJ19
import Derived.Test.YtakoidkeaccgeaaDoorJ13
namespace Go.Proofs.YtakoidkeaccgeaaDoor
open Go.RowKit Go.Shelf Go.Sort
attribute [local go_sem ↓] Go.wp_at_zero Go.wp_at_succ

/-- An encoder's cells beside its writer. -/
def encR (level : Nat) (a r : ByteArray) (c : Bool) : Nat → Option Value
  | 0 => some (.int .i64 (level : Int))
  | 1 => some (.string a)
  | 2 => some (.string r)
  | 6 => some (.bool c)
  | _ => none
/-- An encoder at xb; bs are the bits that were not drained. -/
def EncM (w : World) (S : Nat → Prop) (xb level : Nat) (a r : ByteArray) (c : Bool) (bs : List Bool) : Prop := WB (encR level a r c) w S xb 3 bs
theorem WB.rest {F : Nat → Option Value} {w : World} {S : Nat → Prop} {b o : Nat} {bs : List Bool} (h : WB F w S b o bs) : WRest F w b o := by
  obtain ⟨done, acc, n, ⟨v, c0, c1, c2, f0, f1, f2, hown, hS, hR⟩, r⟩ := h
  exact hR
theorem WB.other {F G : Nat → Option Value} {w : World} {S : Nat → Prop} {b o : Nat} {bs : List Bool} (h : WB F w S b o bs) (j : Nat) (u x : Value) (hj : j < o ∨ o + 3 ≤ j) (hx : w.cell? ⟨b, j, none⟩ = some x) (hG : G j = some u) (hF : ∀ i, i ≠ j → G i = F i) : WB G (w.setCell ⟨b, j, none⟩ u) S b o bs := by
  obtain ⟨done, acc, n, ⟨v, c0, c1, c2, f0, f1, f2, hown, hS, hR⟩, r⟩ := h
  have hc : Chg (fun k => k = b) w (w.setCell ⟨b, j, none⟩ u) := (Chg.refl (fun k => k = b) w).setCell (p := ⟨b, j, none⟩) (Or.inl rfl) _
  have hne : ∀ i, i ≠ j → (w.setCell ⟨b, j, none⟩ u).cell? ⟨b, i, none⟩ = w.cell? ⟨b, i, none⟩ := fun i hi => World.cell?_setCell_other _ _ _ _ (by intro he; injection he with _ he; omega)
  refine ⟨done, acc, n, ⟨v, by rw [hne o (by omega)]; exact c0, by rw [hne (o + 1) (by omega)]; exact c1, by rw [hne (o + 2) (by omega)]; exact c2, by simpa using f0, by simpa using f1, by simpa using f2, hc.own hown (fun k hk he => (hS k hk).2 he), hS, ⟨fun i hi => ?_, fun i => by simpa using hR.2 i⟩⟩, r⟩
  by_cases e : i = j
  · subst e
    rw [World.cell?_setCell_same _ _ _ hx, hG]
  · rw [hne i e, hF i e]
    exact hR.1 i hi
section
variable {w : World} {S : Nat → Prop} {xb level : Nat} {a r : ByteArray} {c : Bool} {bs : List Bool}
theorem EncM.c0 (h : EncM w S xb level a r c bs) : w.cell? ⟨xb, 0, none⟩ = some (.int .i64 (level : Int)) := h.rest.1 0 (by omega)
theorem EncM.c1 (h : EncM w S xb level a r c bs) : w.cell? ⟨xb, 1, none⟩ = some (.string a) := h.rest.1 1 (by omega)
theorem EncM.c2 (h : EncM w S xb level a r c bs) : w.cell? ⟨xb, 2, none⟩ = some (.string r) := h.rest.1 2 (by omega)
theorem EncM.c6 (h : EncM w S xb level a r c bs) : w.cell? ⟨xb, 6, none⟩ = some (.bool c) := h.rest.1 6 (by omega)
theorem EncM.fz (h : EncM w S xb level a r c bs) (j : Nat) : w.frozen? ⟨xb, j, none⟩ = false := h.rest.2 j
theorem EncM.set1 (h : EncM w S xb level a r c bs) (x : ByteArray) : EncM (w.setCell ⟨xb, 1, none⟩ (.string x)) S xb level x r c bs :=
  WB.other h 1 _ _ (by omega) h.c1 rfl (fun i hi => by unfold encR; split <;> first | rfl | omega)
theorem EncM.set2 (h : EncM w S xb level a r c bs) (x : ByteArray) : EncM (w.setCell ⟨xb, 2, none⟩ (.string x)) S xb level a x c bs :=
  WB.other h 2 _ _ (by omega) h.c2 rfl (fun i hi => by unfold encR; split <;> first | rfl | omega)
theorem EncM.set6 (h : EncM w S xb level a r c bs) (x : Bool) : EncM (w.setCell ⟨xb, 6, none⟩ (.bool x)) S xb level a r x bs :=
  WB.other h 6 _ _ (by omega) h.c6 rfl (fun i hi => by unfold encR; split <;> first | rfl | omega)
end
/-- The bits behind a part. -/
def partB (level : Nat) (a s : ByteArray) (bs : List Bool) (last : Bool) : List Bool :=
  blockB bs (if level = 0 then 0 else chooseN s (matchN level a s)) last s (matchN level a s)
theorem chooseN_le (s : ByteArray) (l : List Tok) (hs : s.size ≤ 65535) (hl : l.length ≤ 65535) (h : ∀ t ∈ l, t.ok) : chooseN s l ≤ 2 := (chK_le s l hs hl h 3 (by omega)).2
set_option maxHeartbeats 3200000 in
set_option maxRecDepth 100000 in
theorem encBlock_calls (xb level : Nat) (S : Nat → Prop) (a r : ByteArray) (c last : Bool) (bs : List Bool) (n : Nat) (w : World) (H : EncM w S xb level a r c bs) (ho : OrdM w) (hd : DepM w)
    (hS : ∀ k, S k ∨ k = xb → k ≠ 0 ∧ k ≠ 1) (hlv : level ≤ 9) (ha : a.size ≤ 32768) (hn : n ≤ 65535) (hnr : n ≤ r.size) (_ : r.size ≤ 140737488355327) (hbl : bs.length ≤ 70368744177664) :
    Calls Tryd.prog 30 #[.pointer (some ⟨xb, 0, none⟩), .int .i64 (n : Int), .bool last] w fun e w' => e = .returned (.tuple #[]) ∧
      EncM w' (fun k => S k ∨ w.heap.size ≤ k) xb level (cutA (a ++ r.extract 0 n)) (r.extract n r.size) c (partB level a (r.extract 0 n) bs last) ∧ Chg (fun k => S k ∨ k = xb) w w' := by
  have c0 := H.c0
  have c1 := H.c1
  have c2 := H.c2
  have f1 := H.fz 1
  have f2 := H.fz 2
  have hxw := WB.lt H
  have HH := Lib.hid H
  have HO := Lib.hid ho
  have HD := Lib.hid hd
  have HS := Lib.hid hS
  have hnr2 : (n : Int) ≤ (r.size : Int) := by omega
  have hss : (r.extract 0 n).size = n := by rw [ByteArray.size_extract]; omega
  have HSS := Lib.hid hss
  have hnn : ¬ 9223372036854775807 < a.size + (r.extract 0 n).size := by omega
  clear H ho hd hS hss
  go_enter Tryd.func30, Tryd.ntmps30
  go_wp2_with fail
  have hE1 := HH.out.set2 (r.extract n r.size)
  have hc1 : Chg (fun k => k = xb) w (w.setCell ⟨xb, 2, none⟩ (.string (r.extract n r.size))) := (Chg.refl (fun k => k = xb) w).setCell (p := ⟨xb, 2, none⟩) (Or.inl rfl) _
  have hz1 := hc1.size
  clear c0 c1 c2 f1 f2
  generalize w.setCell ⟨xb, 2, none⟩ (.string (r.extract n r.size)) = w1 at hE1 hc1 hz1 ⊢
  have c0 := hE1.c0
  have c1 := hE1.c1
  have hor := HO.out.lt
  have hde := HD.out.lt
  have hneO : ¬ 0 = xb := fun h => (HS.out xb (Or.inr rfl)).1 h.symm
  have hneD : ¬ 1 = xb := fun h => (HS.out xb (Or.inr rfl)).2 h.symm
  have HT := Lib.hid (matchTokens_calls a (r.extract 0 n) level w1.drew (by omega) (by rw [HSS.out]; omega) hlv ((HD.out.chg hc1 hneD).chg (Chg.refl (fun _ => False) w1).drew (fun h => h)))
  have HE1 := Lib.hid hE1
  have HC1 := Lib.hid hc1
  clear hE1 hc1
  go_region_held3 (fun w' => w'.cell? ⟨xb, 1, none⟩ = some (.string a) ∧ w'.cell? ⟨xb, 0, none⟩ = some (.int .i64 (level : Int)))
    (first | (go_keep; done) | exact ⟨hc3.cell (w := w1.drew) c1 (fun h => h), hc3.cell (w := w1.drew) c0 (fun h => h)⟩)
    ((go_at_call 55; refine HT.out.mono ?_; rintro e w3 ⟨v, rfl, hown, hok, hc3⟩))
  have hz3 : w1.heap.size ≤ w3.heap.size := hc3.size
  have hc13 : Chg (fun _ => False) w1 w3 := ((Chg.refl (fun _ => False) w1).drew).trans hc3 (fun _ h => h.elim)
  have hE3 : EncM w3 (fun k => S k ∧ k < w1.heap.size) xb level a (r.extract n r.size) c bs := (WB.tight HE1.out).chg hc13 (fun _ _ _ h => h) (fun h => h)
  have hC03 : Chg (fun k => k = xb) w w3 := HC1.out.trans hc13 (fun _ h => h.elim)
  have hlen := matchN_length level a (r.extract 0 n)
  rw [HSS.out] at hlen
  have hb1 : ∀ k, v.ownBlock = some k → w1.heap.size ≤ k ∧ k < w3.heap.size := fun k hk => ⟨own_base hown k hk, own_blk_lt hown k hk⟩
  have hTI : TIn w3 (fun k => w1.heap.size ≤ k ∧ k < w3.heap.size) v (matchN level a (r.extract 0 n)) :=
    ⟨Row.of_own hown hb1, hok, by omega, HO.out.chg hC03 hneO, fun k hk => hk.2⟩
  have d0 := EncM.c0 hE3
  have HE3 := Lib.hid hE3
  have HC3 := Lib.hid hC03
  have HTI := Lib.hid hTI
  have hcl := chooseN_le (r.extract 0 n) (matchN level a (r.extract 0 n)) (by rw [HSS.out]; exact hn) hTI.len hTI.ok
  clear hown hok hc3 hc13 hE3 hC03 hTI hb1 c0 c1 HT HE1 HC1
  -- behind the choice
  have key : ∀ (kind : Nat) (w4 : World), kind ≤ 2 → Chg (fun _ => False) w3 w4 → Hid (Calls Tryd.prog 7 #[.pointer (some ⟨xb, 3, none⟩), .int .i64 (kind : Int), .bool last, .string (r.extract 0 n), v] w4 fun e w' => e = .returned (.int .i64 0) ∧
      EncM w' (fun k => S k ∨ w.heap.size ≤ k) xb level a (r.extract n r.size) c (blockB bs kind last (r.extract 0 n) (matchN level a (r.extract 0 n))) ∧ Chg (fun k => S k ∨ k = xb) w w') := by
    intro kind w4 hk hc4
    have hz4 := hc4.size
    have hT4 := HTI.out.chg hc4 (fun _ _ h => h)
    have hE4 : EncM w4 (fun k => S k ∧ k < w1.heap.size) xb level a (r.extract n r.size) c bs := WB.chg HE3.out hc4 (fun _ _ _ h => h) (fun h => h)
    refine Lib.hid ((blockWrite_calls xb 3 (fun k => S k ∧ k < w1.heap.size) (fun k => w1.heap.size ≤ k ∧ k < w3.heap.size) kind last (r.extract 0 n) v (matchN level a (r.extract 0 n)) bs w4 hk (by rw [HSS.out]; exact hn)
      ⟨hT4.row, hT4.ok, hT4.len, hT4.ord, hE4, ?_, hT4.lt, hbl⟩).mono ?_)
    · rintro k (hk | rfl)
      · rintro (⟨_, h⟩ | h)
        · omega
        · omega
      · rintro (⟨h, _⟩ | h)
        · exact (HS.out _ (Or.inl h)).1 rfl
        · exact hneO h
    · rintro e w5 ⟨rfl, hW, hC⟩
      exact ⟨rfl, hW.mono (fun k h => h.elim (fun h => Or.inl h.1) (fun h => Or.inr (by omega))), ((HC3.out.mono (T := fun k => S k ∨ k = xb) (fun k hk => Or.inr hk)).trans hc4 (fun _ h => h.elim)).trans hC (fun k h => Or.inl (h.imp And.left id))⟩
  -- the end: the bytes ahead
  have HKEY := Lib.hid key
  clear key
  by_cases hl0 : level = 0
  · have hl0' : decide ((0 : Int) < (level : Int)) = false := by simp; omega
    have hl1 : ¬ (0 : Int) < (level : Int) := by omega
    have hp : partB level a (r.extract 0 n) bs last = blockB bs 0 last (r.extract 0 n) (matchN level a (r.extract 0 n)) := by unfold partB; rw [if_pos hl0]
    have HP := Lib.hid hp
    clear hp
    go_wp2_with fail
    refine (HKEY.out 0 w3 (by omega) (Chg.refl _ _)).out.mono ?_
    rintro e w5 ⟨rfl, hE5, hC5⟩
    rw [← HP.out] at hE5
    have g1 := EncM.c1 hE5
    have gf1 := EncM.fz hE5 1
    have hE6 := hE5.set1 (a ++ r.extract 0 n)
    have hc6 : Chg (fun k => S k ∨ k = xb) w (w5.setCell ⟨xb, 1, none⟩ (.string (a ++ r.extract 0 n))) := hC5.setCell (p := ⟨xb, 1, none⟩) (Or.inl (Or.inr rfl)) _
    have HE5 := Lib.hid hE5
    clear hE5 hC5
    go_wp2_with fail
    clear g1 gf1
    generalize w5.setCell ⟨xb, 1, none⟩ (.string (a ++ r.extract 0 n)) = w6 at hE6 hc6 ⊢
    have g1 := EncM.c1 hE6
    have gf1 := EncM.fz hE6 1
    have HE6 := Lib.hid hE6
    have HC6 := Lib.hid hc6
    have hq : (a ++ r.extract 0 n).size ≤ 1000000 := by rw [ByteArray.size_append, HSS.out]; omega
    clear hE6 hc6
    generalize hyy : a ++ r.extract 0 n = y at *
    have HY := Lib.hid hyy
    clear hyy
    have hmx : max ((y.size : Int) - 32768) 0 = ((y.size - 32768 : Nat) : Int) := by omega
    go_region
    go_wp2_with fail
    go_end0
    rw [HY.out]
    exact ⟨rfl, WB.drewN (HE6.out.set1 (cutA y)) 1, (HC6.out.setCell (p := ⟨xb, 1, none⟩) (Or.inl (Or.inr rfl)) _).drew⟩
  · have hl0' : decide ((0 : Int) < (level : Int)) = true := by rw [decide_eq_true_iff]; omega
    have hl1 : (0 : Int) < (level : Int) := by omega
    have hp : partB level a (r.extract 0 n) bs last = blockB bs (chooseN (r.extract 0 n) (matchN level a (r.extract 0 n))) last (r.extract 0 n) (matchN level a (r.extract 0 n)) := by unfold partB; rw [if_neg hl0]
    have HP := Lib.hid hp
    have HCH := Lib.hid (choose_calls (r.extract 0 n) _ v (matchN level a (r.extract 0 n)) w3 (by rw [HSS.out]; exact hn) HTI.out)
    clear hp
    go_wp2_with fail
    refine HCH.out.mono ?_
    rintro e w4 ⟨rfl, hc4⟩
    have HW := HKEY.out _ w4 hcl hc4
    clear hc4 HCH
    go_wp2_with fail
    refine HW.out.mono ?_
    rintro e w5 ⟨rfl, hE5, hC5⟩
    rw [← HP.out] at hE5
    have g1 := EncM.c1 hE5
    have gf1 := EncM.fz hE5 1
    have hE6 := hE5.set1 (a ++ r.extract 0 n)
    have hc6 : Chg (fun k => S k ∨ k = xb) w (w5.setCell ⟨xb, 1, none⟩ (.string (a ++ r.extract 0 n))) := hC5.setCell (p := ⟨xb, 1, none⟩) (Or.inl (Or.inr rfl)) _
    have HE5 := Lib.hid hE5
    clear hE5 hC5
    go_wp2_with fail
    clear g1 gf1
    generalize w5.setCell ⟨xb, 1, none⟩ (.string (a ++ r.extract 0 n)) = w6 at hE6 hc6 ⊢
    have g1 := EncM.c1 hE6
    have gf1 := EncM.fz hE6 1
    have HE6 := Lib.hid hE6
    have HC6 := Lib.hid hc6
    have hq : (a ++ r.extract 0 n).size ≤ 1000000 := by rw [ByteArray.size_append, HSS.out]; omega
    clear hE6 hc6
    generalize hyy : a ++ r.extract 0 n = y at *
    have HY := Lib.hid hyy
    clear hyy
    have hmx : max ((y.size : Int) - 32768) 0 = ((y.size - 32768 : Nat) : Int) := by omega
    go_region
    go_wp2_with fail
    go_end0
    rw [HY.out]
    exact ⟨rfl, WB.drewN (HE6.out.set1 (cutA y)) 1, (HC6.out.setCell (p := ⟨xb, 1, none⟩) (Or.inl (Or.inr rfl)) _).drew⟩
end Go.Proofs.YtakoidkeaccgeaaDoor

/- bits: Drain, of any number of bits. -/
namespace Go.Proofs.YtakoidkeaccgeaaDoor
open Go.RowKit
variable {F : Nat → Option Value}

/-- The whole bytes of bits. -/
def by8F : Nat → List Bool → List Nat
  | 0, _ => []
  | f + 1, bs => if 8 ≤ bs.length then bn (bs.take 8) :: by8F f (bs.drop 8) else []
def by8 (bs : List Bool) : List Nat := by8F bs.length bs
/-- What is left behind whole bytes. -/
def rm8 (bs : List Bool) : List Bool := bs.drop (8 * (bs.length / 8))
theorem bn_nb8 (d : Nat) (h : d < 256) : bn (nb 8 d) = d := by rw [bn_nb]; exact Nat.mod_eq_of_lt h
theorem by8F_byb : ∀ (l : List Nat) (f : Nat) (rem : List Bool), (∀ d ∈ l, d < 256) → rem.length < 8 → l.length ≤ f → by8F f (byb l ++ rem) = l
  | [], 0, rem, _, _, _ => rfl
  | [], f + 1, rem, _, hr, _ => by
    have : byb [] ++ rem = rem := rfl
    rw [this, by8F, if_neg (by omega)]
  | d :: l, 0, rem, _, _, h => by simp at h
  | d :: l, f + 1, rem, hd, hr, h => by
    have e : byb (d :: l) ++ rem = nb 8 d ++ (byb l ++ rem) := by
      rw [show byb (d :: l) = nb 8 d ++ byb l from rfl, List.append_assoc]
    have hl : (nb 8 d).length = 8 := nb_length 8 d
    rw [e, by8F, if_pos (by rw [List.length_append, hl]; omega), List.take_left' hl, List.drop_left' hl, by8F_byb l f rem (fun x hx => hd x (List.mem_cons_of_mem _ hx)) hr (by simpa using h), bn_nb8 d (hd d (List.mem_cons_self ..))]
theorem by8_eq (l : List Nat) (rem : List Bool) (hd : ∀ d ∈ l, d < 256) (hr : rem.length < 8) : by8 (byb l ++ rem) = l ∧ rm8 (byb l ++ rem) = rem := by
  have hl := byb_length l
  refine ⟨by8F_byb l _ rem hd hr (by rw [List.length_append, hl]; omega), ?_⟩
  unfold rm8
  rw [List.length_append, hl, show 8 * ((8 * l.length + rem.length) / 8) = (byb l).length by omega]
  exact List.drop_left ..
theorem by8_lt : ∀ (f : Nat) (bs : List Bool), ∀ d ∈ by8F f bs, d < 256
  | 0, bs, d, h => by simp [by8F] at h
  | f + 1, bs, d, h => by
    rw [by8F] at h
    split at h
    · rcases List.mem_cons.1 h with rfl | h
      · have := bn_lt (bs.take 8)
        rw [List.length_take, Nat.min_eq_left (by assumption)] at this
        exact this
      · exact by8_lt f _ d h
    · simp at h
theorem by8_back : ∀ (f : Nat) (bs : List Bool), bs.length ≤ f → byb (by8F f bs) ++ bs.drop (8 * (bs.length / 8)) = bs
  | 0, bs, h => by
    have : bs = [] := List.eq_nil_of_length_eq_zero (by omega)
    subst this; rfl
  | f + 1, bs, h => by
    rw [by8F]
    split
    · rename_i h8
      have ih := by8_back f (bs.drop 8) (by simp; omega)
      have hl : (bs.take 8).length = 8 := by simp; omega
      have hn := nb_bn (bs.take 8)
      rw [hl] at hn
      rw [show byb (bn (bs.take 8) :: by8F f (bs.drop 8)) = nb 8 (bn (bs.take 8)) ++ byb (by8F f (bs.drop 8)) from rfl, hn, List.append_assoc]
      rw [List.length_drop, List.drop_drop] at ih
      rw [show 8 * (bs.length / 8) = 8 + 8 * ((bs.length - 8) / 8) by omega, ih]
      exact List.take_append_drop 8 bs
    · rw [show 8 * (bs.length / 8) = 0 by omega]; rfl
theorem by8_byb (bs : List Bool) (h : bs.length % 8 = 0) : byb (by8 bs) = bs := by
  have := by8_back bs.length bs (Nat.le_refl _)
  rw [show 8 * (bs.length / 8) = bs.length by omega, List.drop_length, List.append_nil] at this
  exact this
def cut0V : Value → Value
  | .slice A _ k => .slice A 0 k
  | x => x
set_option maxHeartbeats 1600000 in
set_option maxRecDepth 100000 in
theorem drainG_calls (b o : Nat) (S : Nat → Prop) (bs : List Bool) (w : World) (h : WB F w S b o bs) :
    Calls Tryd.prog 10 #[.pointer (some ⟨b, o, none⟩)] w fun e w' => e = .returned (.string (bstr (by8 bs))) ∧
      WB F w' S b o (rm8 bs) ∧ Chg (fun i => S i ∨ i = b) w w' := by
  obtain ⟨done, acc, n, ⟨vv, c0, c1, c2, f0, f1, f2, hown, hS, hR⟩, hn, hacc, hby, he⟩ := h
  have HR := Lib.hid hR
  have h8 := by8_eq done (nb n acc) hby (by rw [nb_length]; exact hn)
  rw [he] at h8
  have H8 := Lib.hid h8
  have hcv := own_string (P := Tryd.prog) (src := 25) (dst := 9) hown Tryd.underlying25 Tryd.underlying5 Tryd.underlying9
  have hc0 : (0 : Nat) ≤ 0 := Nat.le_refl 0
  have HO := Lib.hid hown
  have HS := Lib.hid hS
  have HN := Lib.hid hn
  have HA := Lib.hid hacc
  clear he hby hacc hn hR h8
  have hend : WB F (w.setCell ⟨b, o, none⟩ (cut0V vv)) S b o (rm8 bs) := by
    obtain ⟨A, k, rfl⟩ := own_slice HO.out
    rw [H8.out.2]
    exact ⟨[], acc, n, WS.store0 c0 c1 c2 f0 f1 f2 (own_cut0 HO.out) (fun k' hk => HS.out k' (show (Value.slice A done.length k).ownBlock = some k' by cases A <;> exact hk)) HR.out, HN.out, HA.out, by simp, by simp [byb]⟩
  have HEND := Lib.hid hend
  have HCH : Hid (∀ u, Chg (fun i => S i ∨ i = b) w (w.setCell ⟨b, o, none⟩ u)) := fun u => (Chg.refl _ w).setCell (p := ⟨b, o, none⟩) (Or.inl (Or.inr rfl)) u
  clear hend
  rcases hown.2 with ⟨rfl, h0⟩ | ⟨g, cap, cur, rfl, hbg, hg, hnc, hcm, hcs, htake⟩
  · clear hown hS h0
    go_enter Tryd.func10, Tryd.ntmps10
    go_wp2
    go_returns
    exact ⟨by rw [H8.out.1]; rfl, HEND.out, HCH.out _⟩
  · clear hown hS hcs htake hg
    go_enter Tryd.func10, Tryd.ntmps10
    go_wp2
    go_returns
    exact ⟨by rw [H8.out.1]; rfl, HEND.out, HCH.out _⟩
end Go.Proofs.YtakoidkeaccgeaaDoor

/- Plain: the tokens of match tell the text. -/
namespace Go.Proofs.YtakoidkeaccgeaaDoor

def Inv (st : (Nat → Nat) × List Nat) (i : Nat) : Prop := (∀ h, st.1 h ≤ i) ∧ ∀ j, gN st.2 j ≤ i
theorem enterN_inv (t : List Nat) (st : (Nat → Nat) × List Nat) (i : Nat) (h : Inv st i) : Inv (enterN t st i) (i + 1) := by
  unfold enterN
  split
  · refine ⟨fun x => ?_, fun j => ?_⟩
    · dsimp only [updF]
      split
      · exact Nat.le_refl _
      · exact Nat.le_succ_of_le (h.1 x)
    · dsimp only
      rw [gN_set]
      split
      · exact Nat.le_succ_of_le (h.1 _)
      · exact Nat.le_succ_of_le (h.2 j)
  · exact ⟨fun x => Nat.le_succ_of_le (h.1 x), fun j => Nat.le_succ_of_le (h.2 j)⟩
theorem entersFrom_inv (t : List Nat) (st : (Nat → Nat) × List Nat) (i : Nat) (h : Inv st i) : ∀ m, Inv (entersFrom t st i m) (i + m)
  | 0 => h
  | m + 1 => enterN_inv t _ (i + m) (entersFrom_inv t st i h m)
theorem entersN_inv (t : List Nat) : ∀ k, Inv (entersN t k) k
  | 0 => ⟨fun _ => Nat.le_refl _, fun j => by
    show gN (List.replicate t.length 0) j ≤ 0
    have := gN_zs t.length j
    unfold zs at this
    rw [this]; exact Nat.le_refl _⟩
  | k + 1 => enterN_inv t _ k (entersN_inv t k)
/-- Tokens tell a text from i to j. -/
def Tells (t : List Nat) : Nat → List Tok → Nat → Prop
  | i, [], j => i = j
  | i, x :: L, j => ((x.len = 0 ∧ i < t.length ∧ gN t i = x.byte) ∨ (0 < x.len ∧ i + x.len ≤ t.length ∧ x.dist ≤ i ∧ ∀ k, k < x.len → gN t (i - x.dist + k) = gN t (i + k))) ∧ x.ok ∧ Tells t (i + max 1 x.len) L j
theorem Tells.ok {t : List Nat} : ∀ {i : Nat} {L : List Tok} {j : Nat}, Tells t i L j → ∀ x ∈ L, x.ok
  | _, [], _, _, x, hx => by simp at hx
  | _, _ :: L, _, h, x, hx => by
    rcases List.mem_cons.1 hx with rfl | hx
    · exact h.2.1
    · exact Tells.ok h.2.2 x hx
theorem tokStep_cases (t : List Nat) (d : Nat) (lz : Bool) (st : (Nat → Nat) × List Nat) (i : Nat) : tokStep t d lz st i = 0 ∨ (tokStep t d lz st i = (longestN t d st i).1 ∧ (longestN t d st i).1 ≠ 0) := by
  unfold tokStep
  split
  · exact Or.inl rfl
  · split
    · exact Or.inl rfl
    · exact Or.inr ⟨rfl, by assumption⟩
theorem tokF_tells (t : List Nat) (ht : ∀ x ∈ t, x < 256) (d : Nat) (lz : Bool) : ∀ f i st out, t.length ≤ i + f → i ≤ t.length → Inv st i → ∃ L, tokF t d lz f i st out = out ++ L ∧ Tells t i L t.length
  | 0, i, st, out, h, hi, _ => ⟨[], by simp [tokF], by show i = _; omega⟩
  | f + 1, i, st, out, h, hi, hv => by
    rw [tokF]
    split
    · rename_i hlt
      have hb := ht _ (gN_mem t i hlt)
      split
      · obtain ⟨L, e, hT⟩ := tokF_tells t ht d lz f (i + 1) (enterN t st i) (out ++ [⟨gN t i, 0, 0⟩]) (by omega) (by omega) (enterN_inv t st i hv)
        exact ⟨⟨gN t i, 0, 0⟩ :: L, by rw [e, List.append_assoc]; rfl, Or.inl ⟨rfl, hlt, rfl⟩, Or.inl ⟨rfl, rfl, hb⟩, hT⟩
      · rename_i hne
        rcases tokStep_cases t d lz st i with h0 | ⟨h1, h2⟩
        · exact absurd h0 hne
        · have hlo := longestN_ok t d st i hv.1 hv.2
          rcases hlo with h0 | hlo
          · exact absurd h0 h2
          · rw [h1]
            generalize hp : longestN t d st i = p at *
            obtain ⟨p1, p2⟩ := p
            dsimp only at *
            have hinv := entersFrom_inv t (enterN t st i) (i + 1) (enterN_inv t st i hv) (p1 - 1)
            rw [show i + 1 + (p1 - 1) = i + p1 by omega] at hinv
            obtain ⟨L, e, hT⟩ := tokF_tells t ht d lz f (i + p1) _ (out ++ [⟨0, p1, p2⟩]) (by omega) (by omega) hinv
            refine ⟨⟨0, p1, p2⟩ :: L, by rw [e, List.append_assoc]; rfl, Or.inr ⟨by dsimp only; omega, by dsimp only; omega, by dsimp only; omega, hlo.2.2.2.2.2.2⟩, Or.inr ⟨rfl, by dsimp only; omega, by dsimp only; omega, by dsimp only; omega, by dsimp only; omega⟩, ?_⟩
            dsimp only
            rw [show max 1 p1 = p1 by omega]
            exact hT
    · exact ⟨[], by simp, by show i = _; omega⟩
theorem lit_tells (t : List Nat) (ht : ∀ x ∈ t, x < 256) : ∀ (s : List Nat) (i : Nat), (∀ k, k < s.length → gN t (i + k) = gN s k) → i + s.length = t.length → Tells t i (s.map litT) t.length
  | [], i, _, h => by show i = _; simpa using h
  | b :: s, i, hg, h => by
    have h0 := hg 0 (by simp)
    have e0 : gN (b :: s) 0 = b := rfl
    rw [Nat.add_zero, e0] at h0
    have hlt : i < t.length := by simp at h; omega
    have hb := ht _ (gN_mem t i hlt)
    refine ⟨Or.inl ⟨rfl, hlt, h0⟩, Or.inl ⟨rfl, rfl, by show b < 256; omega⟩, ?_⟩
    refine lit_tells t ht s (i + 1) (fun k hk => ?_) (by simp at h; omega)
    have := hg (k + 1) (by simp; omega)
    rw [show i + 1 + k = i + (k + 1) by omega, this]
    rfl
theorem gN_app (a b : List Nat) (k : Nat) : gN (a ++ b) (a.length + k) = gN b k := by
  unfold gN; rw [List.getD_eq_getElem?_getD, List.getElem?_append_right (by omega), List.getD_eq_getElem?_getD, Nat.add_sub_cancel_left]
theorem sby_app (a b : ByteArray) : sby (a ++ b) = sby a ++ sby b := by
  simp [sby, ByteArray.data_append]
theorem tokens_tells (T : List Nat) (hb : ∀ x ∈ T, x < 256) (d : Nat) (lz : Bool) (n : Nat) (hn : n ≤ T.length) : Tells T n (tokensN T d lz n (entersN T n)) T.length := by
  obtain ⟨L, e, hT⟩ := tokF_tells T hb d lz (T.length + 1) n (entersN T n) [] (by omega) hn (entersN_inv _ _)
  rw [List.nil_append] at e
  unfold tokensN
  rw [e]
  exact hT
/-- The tokens tell the text behind what stands ahead. -/
theorem matchN_tells (level : Nat) (a s : ByteArray) : Tells (sby (cutA a ++ s)) (cutA a).size (matchN level a s) (sby (cutA a ++ s)).length := by
  have hle : (cutA a).size ≤ (sby (cutA a ++ s)).length := by rw [sby_length, ByteArray.size_append]; omega
  unfold matchN
  split
  · refine lit_tells _ (sby_lt _) (sby s) _ (fun k hk => ?_) ?_
    · rw [sby_app, ← sby_length (cutA a)]
      exact gN_app _ _ _
    · rw [sby_length, sby_length, ByteArray.size_append]
  · with_reducible exact tokens_tells (sby (cutA a ++ s)) (sby_lt _) (depN level) (decide (4 ≤ level)) (cutA a).size hle
theorem matchN_ok (level : Nat) (a s : ByteArray) : ∀ t ∈ matchN level a s, t.ok := (matchN_tells level a s).ok
end Go.Proofs.YtakoidkeaccgeaaDoor

/- deflate: New, Write, Close, All, Most. -/
namespace Go.Proofs.YtakoidkeaccgeaaDoor
open Go.RowKit Go.Shelf Go.Sort
variable {F : Nat → Option Value}

theorem WB.fresh3 {w : World} {b : Nat} {t : TypeId} {x0 x1 x2 x6 : Value} (h : Blk w b [x0, x1, x2, .slice none 0 0, .int .u64 0, .int .i64 0, x6] t)
    (h0 : F 0 = some x0) (h1 : F 1 = some x1) (h2 : F 2 = some x2) (h6 : F 6 = some x6) (hF : ∀ j, 7 ≤ j → F j = none) : WB F w (fun _ => False) b 3 [] := by
  refine ⟨[], 0, 0, ⟨.slice none 0 0, h.cell 3, h.cell 4, h.cell 5, h.frozen 3, h.frozen 4, h.frozen 5, own_nil _ _ _ _, fun k hk => by simp [Value.ownBlock] at hk, ⟨fun j hj => ?_, fun j => h.frozen j⟩⟩, by omega, by omega, by simp, by simp [byb, nb]⟩
  rw [h.cell j]
  match j, hj with
  | 0, _ => exact h0.symm
  | 1, _ => exact h1.symm
  | 2, _ => exact h2.symm
  | 3, hj => omega
  | 4, hj => omega
  | 5, hj => omega
  | 6, _ => exact h6.symm
  | j + 7, _ => rw [hF (j + 7) (by omega)]; exact List.getElem?_eq_none (by simp)
theorem EncM.fresh {w : World} {b level : Nat} {t : TypeId} (h : Blk w b [.int .i64 (level : Int), .string ByteArray.empty, .string ByteArray.empty, .slice none 0 0, .int .u64 0, .int .i64 0, .bool false] t) :
    EncM w (fun _ => False) b level ByteArray.empty ByteArray.empty false [] :=
  WB.fresh3 h rfl rfl rfl rfl (fun j hj => by unfold encR; split <;> first | rfl | omega)
set_option maxRecDepth 100000 in
theorem newEnc_calls (level : Nat) (w : World) (h : level ≤ 9) :
    Calls Tryd.prog 13 #[.int .i64 (level : Int)] w fun e w' => e = .returned (.tuple #[.pointer (some ⟨w.heap.size, 0, none⟩), .int .i64 0]) ∧ EncM w' (fun _ => False) w.heap.size level ByteArray.empty ByteArray.empty false [] ∧ Chg (fun _ => False) w w' := by
  have g1 : decide ((level : Int) < 0) = false := by simp
  have g2 : decide ((9 : Int) < (level : Int)) = false := by simp; omega
  go_enter Tryd.func13, Tryd.ntmps13
  go_wp2
  go_ret2
  exact ⟨rfl, EncM.fresh (Blk.new w _ _), (Chg.refl _ _).alloc _⟩
set_option maxRecDepth 100000 in
theorem newEncBad_calls (level : Int) (w : World) (h : level < 0 ∨ 9 < level) :
    Calls Tryd.prog 13 #[.int .i64 level] w fun e w' => e = .returned (.tuple #[.pointer none, .int .i64 1]) ∧ w = w' := by
  by_cases h1 : level < 0
  · have g1 : decide (level < 0) = true := by simpa using h1
    go_enter Tryd.func13, Tryd.ntmps13
    go_wp2
    go_ret2
    exact ⟨rfl, rfl⟩
  · have g1 : decide (level < 0) = false := by simpa using h1
    have g2 : decide (9 < level) = true := by simp; omega
    go_enter Tryd.func13, Tryd.ntmps13
    go_wp2
    go_ret2
    exact ⟨rfl, rfl⟩
/-- The bytes ahead, those that were not told, the bits that were not drained. -/
def ES : Type := ByteArray × ByteArray × List Bool
def esA (st : ES) : ByteArray := st.1
def esR (st : ES) : ByteArray := st.2.1
def esB (st : ES) : List Bool := st.2.2
/-- One part more is told. -/
def partS (level n : Nat) (last : Bool) (st : ES) : ES := (cutA (esA st ++ (esR st).extract 0 n), (esR st).extract n (esR st).size, partB level (esA st) ((esR st).extract 0 n) (esB st) last)
def encL (level : Nat) : Nat → ES → ES
  | 0, st => st
  | f + 1, st => if 16384 < (esR st).size then encL level f (partS level 16384 false st) else st
theorem partB_le (level : Nat) (a s : ByteArray) (bs : List Bool) (last : Bool) (hs : s.size ≤ 65535) (hok : ∀ t ∈ matchN level a s, t.ok) : (partB level a s bs last).length ≤ bs.length + 4000000 :=
  blockB_le bs _ last s _ hs (Nat.le_trans (matchN_length level a s) hs) hok
theorem partS_R (level n : Nat) (last : Bool) (st : ES) (h : n ≤ (esR st).size) : (esR (partS level n last st)).size = (esR st).size - n := by
  show ((esR st).extract n (esR st).size).size = _
  rw [ByteArray.size_extract]; omega
theorem encL_fuel (level : Nat) : ∀ f g st, (esR st).size ≤ f → (esR st).size ≤ g → encL level f st = encL level g st
  | 0, 0, _, _, _ => rfl
  | 0, g + 1, st, h, _ => by rw [encL, encL, if_neg (by omega)]
  | f + 1, 0, st, _, h => by rw [encL, encL, if_neg (by omega)]
  | f + 1, g + 1, st, h, h' => by
    rw [encL, encL]
    split
    · rename_i hr
      have := partS_R level 16384 false st (by omega)
      exact encL_fuel level f g _ (by omega) (by omega)
    · rfl
/-- What an encoder's call comes to: the string, and the encoder behind it. -/
def EncP (w : World) (S : Nat → Prop) (xb level : Nat) (out : List Nat) (st : ES) (c : Bool) (e : Ending) (w' : World) : Prop :=
  e = .returned (.tuple #[.string (bstr out), .int .i64 0]) ∧ EncM w' (fun k => S k ∨ w.heap.size ≤ k) xb level (esA st) (esR st) c (esB st) ∧ Chg (fun k => S k ∨ k = xb) w w'
def drS (st : ES) : ES := (esA st, esR st, rm8 (esB st))
theorem matchN_ok_of {w w' : World} {L : List Tok} {e : Ending} (h : TokR w L e w') : ∀ t ∈ L, t.ok := by
  obtain ⟨v, _, _, h, _⟩ := h
  exact h
set_option maxHeartbeats 3200000 in
set_option maxRecDepth 100000 in
theorem writeEnc_calls (xb level : Nat) (S : Nat → Prop) (st : ES) (s : ByteArray) (w : World) (H : EncM w S xb level (esA st) (esR st) false (esB st)) (_ : OrdM w) (_ : DepM w)
    (_ : ∀ k, S k ∨ k = xb → k ≠ 0 ∧ k ≠ 1) (_ : level ≤ 9) (_ : (esA st).size ≤ 32768) (hr : (esR st).size + s.size ≤ 16384) :
    Calls Tryd.prog 14 #[.pointer (some ⟨xb, 0, none⟩), .string s] w (EncP w S xb level (by8 (esB st)) (drS (esA st, esR st ++ s, esB st)) false) := by
  have c2 := H.c2
  have c6 := H.c6
  have f2 := H.fz 2
  have hxw := WB.lt H
  have HH := Lib.hid H
  have hnn : ¬ 9223372036854775807 < (esR st).size + s.size := by omega
  have hsz : (esR st ++ s).size ≤ 16384 := by rw [ByteArray.size_append]; omega
  have hge : ¬ (16384 : Int) < ((esR st).size : Int) + (s.size : Int) := by omega
  have hge2 : ¬ (16384 : Int) < ((esR st ++ s).size : Int) := by omega
  clear H
  go_enter Tryd.func14, Tryd.ntmps14
  go_wp2_with fail
  have hE1 := HH.out.set2 (esR st ++ s)
  have hc1 : Chg (fun k => k = xb) w (w.setCell ⟨xb, 2, none⟩ (.string (esR st ++ s))) := (Chg.refl (fun k => k = xb) w).setCell (p := ⟨xb, 2, none⟩) (Or.inl rfl) _
  generalize w.setCell ⟨xb, 2, none⟩ (.string (esR st ++ s)) = w1 at hE1 hc1 ⊢
  clear c2 c6 f2
  have c2 := EncM.c2 hE1
  have HD := Lib.hid (drainG_calls xb 3 S (esB st) w1 hE1)
  have HC1 := Lib.hid hc1
  clear hE1 hc1
  refine wp_loop_rounds 1 ?_
  rw [rounds_succ]
  go_wp2_with fail
  refine HD.out.mono ?_
  rintro e w2 ⟨rfl, hW2, hC2⟩
  have HW2 := Lib.hid hW2
  have HC2 := Lib.hid hC2
  clear hW2 hC2
  go_wp2
  go_ret2
  exact ⟨rfl, HW2.out.mono (fun k hk => Or.inl hk), (HC1.out.mono (T := fun k => S k ∨ k = xb) (fun k hk => Or.inr hk)).trans HC2.out (fun k hk => Or.inl hk)⟩
/-- What Close comes to. -/
def CloseP (w : World) (S : Nat → Prop) (xb level : Nat) (out : List Nat) (e : Ending) (w' : World) : Prop :=
  e = .returned (.tuple #[.string (bstr out), .int .i64 0]) ∧ (∃ a r, EncM w' (fun k => S k ∨ w.heap.size ≤ k) xb level a r true []) ∧ Chg (fun k => S k ∨ k = xb) w w'
/-- The stream's last bytes. -/
def closeS (level : Nat) (st : ES) : List Bool := algn (partB level (esA st) ((esR st).extract 0 (esR st).size) (esB st) true)
set_option maxHeartbeats 3200000 in
set_option maxRecDepth 100000 in
theorem closeEnc_calls (xb level : Nat) (S : Nat → Prop) (st : ES) (w : World) (H : EncM w S xb level (esA st) (esR st) false (esB st)) (ho : OrdM w) (hd : DepM w)
    (hS : ∀ k, S k ∨ k = xb → k ≠ 0 ∧ k ≠ 1) (hlv : level ≤ 9) (ha : (esA st).size ≤ 32768) (hr : (esR st).size ≤ 65535) (hbl : (esB st).length ≤ 35184372088832) :
    Calls Tryd.prog 15 #[.pointer (some ⟨xb, 0, none⟩)] w (CloseP w S xb level (by8 (closeS level st))) := by
  have c6 := H.c6
  have f6 := H.fz 6
  have hE1 := H.set6 true
  have hc1 : Chg (fun k => k = xb) w (w.setCell ⟨xb, 6, none⟩ (.bool true)) := (Chg.refl (fun k => k = xb) w).setCell (p := ⟨xb, 6, none⟩) (Or.inl rfl) _
  have hneO : ¬ 0 = xb := fun h => (hS xb (Or.inr rfl)).1 h.symm
  have hneD : ¬ 1 = xb := fun h => (hS xb (Or.inr rfl)).2 h.symm
  have HB := Lib.hid (encBlock_calls xb level S (esA st) (esR st) true true (esB st) (esR st).size _ hE1 (ho.chg hc1 hneO) (hd.chg hc1 hneD) hS hlv ha hr (Nat.le_refl _) (by omega) (by omega))
  have hz1 := hc1.size
  have c2 := EncM.c2 hE1
  have HC1 := Lib.hid hc1
  have hpl : (partB level (esA st) ((esR st).extract 0 (esR st).size) (esB st) true).length ≤ (esB st).length + 4000000 := partB_le level _ _ _ _ (by rw [ByteArray.size_extract]; omega) (matchN_ok _ _ _)
  have HPL := Lib.hid hpl
  have HCL : Hid (closeS level st = algn (partB level (esA st) ((esR st).extract 0 (esR st).size) (esB st) true)) := rfl
  clear H ho hd hS hE1 hc1 hpl
  go_enter Tryd.func15, Tryd.ntmps15
  go_wp2_with fail
  refine HB.out.mono ?_
  rintro e w2 ⟨rfl, hE2, hC2⟩
  have hz2 := hC2.size
  have HAL := Lib.hid (align_calls xb 3 _ _ w2 hE2 (by have := HPL.out; omega))
  have HC2 := Lib.hid ((HC1.out.mono (T := fun k => S k ∨ k = xb) (fun k hk => Or.inr hk)).trans hC2 (fun k hk => Or.inl hk))
  clear hE2 hC2 HB
  go_wp2_with fail
  refine HAL.out.mono ?_
  rintro e w3 ⟨rfl, hE3, hC3⟩
  have HDR := Lib.hid (drainG_calls xb 3 _ _ w3 hE3)
  have hz3 := hC3.size
  have HC3 := Lib.hid (HC2.out.trans hC3 (fun k hk => hk.elim (fun h => h.elim (fun h => Or.inl (Or.inl h)) (fun h => Or.inr (by omega))) (fun h => Or.inl (Or.inr h))))
  clear hE3 hC3 HAL
  go_wp2_with fail
  refine HDR.out.mono ?_
  rintro e w4 ⟨rfl, hE4, hC4⟩
  have hrm : rm8 (algn (partB level (esA st) ((esR st).extract 0 (esR st).size) (esB st) true)) = [] := by
    have := algn_len (partB level (esA st) ((esR st).extract 0 (esR st).size) (esB st) true)
    unfold rm8
    rw [show 8 * ((algn (partB level (esA st) ((esR st).extract 0 (esR st).size) (esB st) true)).length / 8) = (algn (partB level (esA st) ((esR st).extract 0 (esR st).size) (esB st) true)).length by omega, List.drop_length]
  rw [hrm] at hE4
  have HE4 := Lib.hid hE4
  have HC4 := Lib.hid hC4
  clear hE4 hC4 HDR hrm
  generalize hby : by8 (algn (partB level (esA st) ((esR st).extract 0 (esR st).size) (esB st) true)) = out at *
  have HBY := Lib.hid hby
  clear hby
  go_wp2
  go_ret2
  rw [HCL.out]
  have h4 := HE4.out.mono (T := fun k => S k ∨ w.heap.size ≤ k) (fun k hk => hk.elim (fun h => h.imp id (fun h => by omega)) (fun h => Or.inr (by omega)))
  have h5 : Chg (fun k => S k ∨ k = xb) w w4 := HC3.out.trans HC4.out (fun k hk => hk.elim (fun h => h.elim (fun h => h.elim (fun h => Or.inl (Or.inl h)) (fun h => Or.inr (by omega))) (fun h => Or.inr (by omega))) (fun h => Or.inl (Or.inr h)))
  rw [HBY.out]
  exact ⟨rfl, ⟨_, _, (h4 : EncM w4 (fun k => S k ∨ w.heap.size ≤ k) xb level (cutA (esA st ++ (esR st).extract 0 (esR st).size)) ((esR st).extract (esR st).size (esR st).size) true [])⟩, h5⟩
end Go.Proofs.YtakoidkeaccgeaaDoor

/- deflate: All, Most; what refuses. -/
namespace Go.Proofs.YtakoidkeaccgeaaDoor
open Go.RowKit Go.Shelf Go.Sort
variable {F : Nat → Option Value}

theorem bstr_append (a b : List Nat) : bstr (a ++ b) = bstr a ++ bstr b := by
  apply ByteArray.ext
  simp [bstr, ByteArray.data_append]
def es0 : ES := (ByteArray.empty, ByteArray.empty, [])
def es1 (s : ByteArray) : ES := drS (esA es0, esR es0 ++ s, esB es0)
/-- The stream of a text. -/
def allN (level : Nat) (s : ByteArray) : List Nat := by8 (closeS level (es1 s))
theorem es1_a (s : ByteArray) : (esA (es1 s)).size = 0 := rfl
theorem es1_r (s : ByteArray) : esR (es1 s) = s := by
  show ByteArray.empty ++ s = s
  simp
theorem es1_b (s : ByteArray) : esB (es1 s) = [] := by
  simp [es1, drS, esB, es0, rm8]
set_option maxHeartbeats 3200000 in
set_option maxRecDepth 100000 in
theorem all_calls (level : Nat) (s : ByteArray) (w : World) (ho : OrdM w) (hd : DepM w) (h9 : level ≤ 9) (hs : s.size ≤ 16384) (hl : (allN level s).length ≤ 100000000) :
    Calls Tryd.prog 12 #[.string s, .int .i64 (level : Int)] w fun e w' => e = .returned (.tuple #[.string (bstr (allN level s)), .int .i64 0]) ∧ Chg (fun _ => False) w w' := by
  have HN := Lib.hid (newEnc_calls level w h9)
  have hor := ho.lt
  have hde := hd.lt
  have HO := Lib.hid ho
  have HD := Lib.hid hd
  have HL := Lib.hid hl
  clear ho hd hl
  go_enter Tryd.func12, Tryd.ntmps12
  go_wp2_with fail
  refine HN.out.mono ?_
  rintro e w1 ⟨rfl, hE1, hC1⟩
  have HW := Lib.hid (writeEnc_calls w.heap.size level (fun _ => False) es0 s w1 hE1 (HO.out.chg hC1 (fun h => h)) (HD.out.chg hC1 (fun h => h)) (by
    rintro k (h | h)
    · exact h.elim
    · omega) h9 (by decide) (by show 0 + s.size ≤ _; omega))
  have HC1 := Lib.hid hC1
  have hz1 := hC1.size
  clear hE1 hC1 HN
  go_wp2_with fail
  refine HW.out.mono ?_
  rintro e w2 ⟨rfl, hE2, hC2⟩
  have hz2 := hC2.size
  have hC02 : Chg (fun _ => False) w w2 := HC1.out.trans hC2 (fun k hk => Or.inr (hk.elim (fun h => h.elim) (fun h => by omega)))
  have HCL := Lib.hid (closeEnc_calls w.heap.size level _ (es1 s) w2 hE2 (HO.out.chg hC02 (fun h => h)) (HD.out.chg hC02 (fun h => h)) (by
    rintro k ((h | h) | h)
    · exact h.elim
    · omega
    · omega) h9 (by rw [es1_a]; omega) (by rw [es1_r]; omega) (by rw [es1_b]; simp))
  have HC2 := Lib.hid hC2
  clear hE2 hC2 HW hC02
  go_wp2_with fail
  refine HCL.out.mono ?_
  rintro e w3 ⟨rfl, hE3, hC3⟩
  have HC3 : Hid (Chg (fun _ => False) w w3) := (HC1.out.trans HC2.out (fun k hk => Or.inr (hk.elim (fun h => h.elim) (fun h => by omega)))).trans hC3 (fun k hk => Or.inr (hk.elim (fun h => h.elim (fun h => h.elim) (fun h => by omega)) (fun h => by omega)))
  clear hE3 hC3 HCL
  have e0 : by8 (esB es0) = [] := rfl
  have ea : by8 (closeS level (es1 s)) = allN level s := rfl
  rw [e0, ea]
  have hsz : ¬ 9223372036854775807 < (bstr []).size + (bstr (allN level s)).size := by
    have := HL.out
    rw [bstr_size, bstr_size]
    simp; omega
  have hjoin : bstr [] ++ bstr (allN level s) = bstr (allN level s) := by rw [← bstr_append]; rfl
  have HJ := Lib.hid hjoin
  clear e0 ea hjoin
  generalize hout : allN level s = out at *
  have HOUT := Lib.hid hout
  clear hout
  go_wp2
  go_ret2
  rw [HOUT.out, ← HJ.out]
  exact ⟨rfl, HC3.out⟩

set_option maxRecDepth 100000 in
theorem writeNil_calls (s : ByteArray) (w : World) :
    Calls Tryd.prog 14 #[.pointer none, .string s] w fun e w' => e = .returned (.tuple #[.string ByteArray.empty, .int .i64 1]) ∧ w = w' := by
  go_enter Tryd.func14, Tryd.ntmps14
  go_wp2
  go_ret2
  exact ⟨rfl, rfl⟩
set_option maxRecDepth 100000 in
theorem closeNil_calls (w : World) :
    Calls Tryd.prog 15 #[.pointer none] w fun e w' => e = .returned (.tuple #[.string ByteArray.empty, .int .i64 1]) ∧ w = w' := by
  go_enter Tryd.func15, Tryd.ntmps15
  go_wp2
  go_ret2
  exact ⟨rfl, rfl⟩
set_option maxRecDepth 100000 in
theorem writeShut_calls (xb : Nat) (s : ByteArray) (w : World) (h : w.cell? ⟨xb, 6, none⟩ = some (.bool true)) :
    Calls Tryd.prog 14 #[.pointer (some ⟨xb, 0, none⟩), .string s] w fun e w' => e = .returned (.tuple #[.string ByteArray.empty, .int .i64 16]) ∧ w = w' := by
  go_enter Tryd.func14, Tryd.ntmps14
  go_wp2
  go_ret2
  exact ⟨rfl, rfl⟩
set_option maxRecDepth 100000 in
theorem closeShut_calls (xb : Nat) (w : World) (h : w.cell? ⟨xb, 6, none⟩ = some (.bool true)) :
    Calls Tryd.prog 15 #[.pointer (some ⟨xb, 0, none⟩)] w fun e w' => e = .returned (.tuple #[.string ByteArray.empty, .int .i64 16]) ∧ w = w' := by
  go_enter Tryd.func15, Tryd.ntmps15
  go_wp2
  go_ret2
  exact ⟨rfl, rfl⟩
def mostN (n : Nat) : Nat := n + 6 * max ((n + 16383) / 16384) 1
set_option maxRecDepth 100000 in
theorem most_calls (n : Nat) (w : World) (h : n ≤ 100000000) :
    Calls Tryd.prog 16 #[.int .i64 (n : Int)] w fun e w' => e = .returned (.int .i64 (mostN n : Int)) ∧ w = w' := by
  have g : decide ((n : Int) < 0) = false := by simp
  go_enter Tryd.func16, Tryd.ntmps16
  go_wp2
  go_ret
  exact ⟨ret_int (by unfold mostN; omega), rfl⟩
set_option maxRecDepth 100000 in
theorem mostNeg_calls (n : Int) (w : World) (h : n < 0) :
    Calls Tryd.prog 16 #[.int .i64 n] w fun e w' => e = .returned (.int .i64 0) ∧ w = w' := by
  go_enter Tryd.func16, Tryd.ntmps16
  go_wp2
  go_ret
  exact ⟨rfl, rfl⟩
/-- How many parts. -/
def partsF : Nat → Nat → Nat → Nat
  | 0, _, k => k
  | f + 1, n, k => if 16384 < n then partsF f (n - 16384) (k + 1) else k
def partsN (n : Nat) : Nat := partsF n n 1
theorem partsF_fuel : ∀ f g n k, n ≤ f → n ≤ g → partsF f n k = partsF g n k
  | 0, 0, _, _, _, _ => rfl
  | 0, g + 1, n, k, h, _ => by rw [partsF, partsF, if_neg (by omega)]
  | f + 1, 0, n, k, _, h => by rw [partsF, partsF, if_neg (by omega)]
  | f + 1, g + 1, n, k, h, h' => by
    rw [partsF, partsF]
    split
    · exact partsF_fuel f g _ _ (by omega) (by omega)
    · rfl
theorem partsF_eq : ∀ f n k, n ≤ f → partsF f n k + 1 = k + max ((n + 16383) / 16384) 1
  | 0, n, k, h => by rw [partsF]; omega
  | f + 1, n, k, h => by
    rw [partsF]
    split
    · rw [partsF_eq f _ _ (by omega)]; omega
    · omega
theorem parts_most (n : Nat) : mostN n = n + 6 * partsN n := by
  have := partsF_eq n n 1 (Nat.le_refl _)
  unfold mostN partsN
  omega
set_option maxRecDepth 100000 in
theorem parts_calls (n : Nat) (w : World) (h : n ≤ 100000000) :
    Calls Tryd.prog 17 #[.int .i64 (n : Int)] w fun e w' => e = .returned (.int .i64 (partsN n : Int)) ∧ w' = w := by
  go_enter Tryd.func17, Tryd.ntmps17
  go_wp2
  go_loop [0, 3] (fun a b => ∃ m k : Nat, a = .int .i64 (m : Int) ∧ b = .int .i64 (k : Int) ∧ m ≤ n ∧ m + k ≤ n + 1 ∧ Hid (partsN n = partsF m m k)) (fun a _ => (intOf a).toNat)
  case atStart => exact ⟨n, 1, rfl, rfl, Nat.le_refl _, Nat.le_refl _, rfl⟩
  case round =>
    obtain ⟨m, k, rfl, rfl, hm, hmk, HP⟩ := hrel
    by_cases hlt : 16384 < m
    · have hlt' : (16384 : Int) < (m : Int) := by omega
      have hst : partsF m m k = partsF (m - 16384) (m - 16384) (k + 1) := by
        obtain ⟨j, rfl⟩ : ∃ j, m = j + 1 := ⟨m - 1, by omega⟩
        rw [partsF, if_pos hlt]
        exact partsF_fuel _ _ _ _ (by omega) (by omega)
      have HST := Lib.hid hst
      clear hst
      go_wp2
      go_round
      case rel => exact ⟨m - 16384, k + 1, by congr 1; omega, by go_num, by omega, by omega, by rw [HP.out, HST.out]; rfl⟩
      case measure => simp [intOf]; omega
    · have hlt' : ¬ (16384 : Int) < (m : Int) := by omega
      have hst : partsF m m k = k := by
        cases m with
        | zero => rfl
        | succ j => rw [partsF, if_neg hlt]
      have HST := Lib.hid hst
      clear hst
      go_wp2
      go_ret
      exact ⟨ret_int (by rw [HP.out, HST.out]), rfl⟩
end Go.Proofs.YtakoidkeaccgeaaDoor

/- deflate: what two streams come to; the bound of a stream. -/
namespace Go.Proofs.YtakoidkeaccgeaaDoor

theorem by8F_length : ∀ (f : Nat) (bs : List Bool), bs.length ≤ f → (by8F f bs).length = bs.length / 8
  | 0, bs, h => by
    rw [by8F]
    simp
    omega
  | f + 1, bs, h => by
    rw [by8F]
    split
    · have := by8F_length f (bs.drop 8) (by rw [List.length_drop]; omega)
      rw [List.length_cons, this, List.length_drop]
      omega
    · simp; omega
theorem by8_length (bs : List Bool) : (by8 bs).length = bs.length / 8 := by8F_length _ bs (Nat.le_refl _)
theorem allN_eq (level : Nat) (s : ByteArray) : allN level s = by8 (algn (partB level ByteArray.empty s [] true)) := by
  have e : (s.extract 0 s.size) = s := by simp
  have h1 : esA (es1 s) = ByteArray.empty := rfl
  unfold allN closeS
  rw [es1_r, es1_b, h1, e]
theorem allN_le (level : Nat) (s : ByteArray) (hs : s.size ≤ 65535) : (allN level s).length ≤ 1000000 := by
  rw [allN_eq, by8_length]
  have h1 := algn_le (partB level ByteArray.empty s [] true)
  have h2 := partB_le level ByteArray.empty s [] true hs (matchN_ok level ByteArray.empty s)
  simp at h2
  omega
theorem chK_min (s : ByteArray) (l : List Tok) : ∀ k, 1 ≤ k → (chK s l k).1 = sizeN (chK s l k).2 s l ∧ ∀ j, j < k → (chK s l k).1 ≤ sizeN j s l
  | 0, h => by omega
  | 1, _ => ⟨rfl, fun j hj => by
    obtain rfl : j = 0 := by omega
    exact Nat.le_refl _⟩
  | k + 2, _ => by
    have ih := chK_min s l (k + 1) (by omega)
    rw [chK]
    unfold chS
    rw [if_neg (by omega)]
    split
    · rename_i hlt
      refine ⟨rfl, fun j hj => ?_⟩
      dsimp only
      by_cases e : j = k + 1
      · subst e; exact Nat.le_refl _
      · have := ih.2 j (by omega); omega
    · rename_i hlt
      refine ⟨ih.1, fun j hj => ?_⟩
      by_cases e : j = k + 1
      · subst e; omega
      · exact ih.2 j (by omega)
theorem chooseN_min (s : ByteArray) (l : List Tok) (j : Nat) (h : j < 3) : sizeN (chooseN s l) s l ≤ sizeN j s l := by
  have := chK_min s l 3 (by omega)
  have h2 := this.2 j h
  rw [this.1] at h2
  exact h2
theorem blockB_last (kind : Nat) (s : ByteArray) (l : List Tok) : (blockB [] kind true s l).length = (blockB [] kind false s l).length := by
  unfold blockB
  split
  · simp only [algn, List.length_append, nb_length]
  · simp only [List.length_append, nb_length]
  · simp only [List.length_append, nb_length]
set_option maxRecDepth 100000
theorem all_empty : allN 9 ByteArray.empty = [3, 0] := by decide +kernel
def T20 : List Nat := List.replicate 20 97
theorem z5 : longestN T20 (depN 6) (enterN T20 (entersN T20 0) 0) 1 = (19, 1) := by decide +kernel
theorem z6 : tokStep T20 (depN 6) true (entersN T20 0) 0 = 0 := by decide +kernel
theorem z7 : tokStep T20 (depN 6) true (enterN T20 (entersN T20 0) 0) 1 = 19 := by decide +kernel
def L20 : List Tok := [⟨97, 0, 0⟩, ⟨0, 19, 1⟩]
theorem z9 : tokensN T20 (depN 6) true 0 (entersN T20 0) = L20 := by
  unfold tokensN
  have hl : T20.length = 20 := rfl
  rw [hl]
  rw [tokF, if_pos (by decide), z6, if_pos rfl]
  rw [tokF, if_pos (by decide), z7, if_neg (by decide), z5]
  rfl
def S20 : ByteArray := ⟨#[97,97,97,97,97,97,97,97,97,97,97,97,97,97,97,97,97,97,97,97]⟩
theorem z10 : matchN 6 ByteArray.empty S20 = L20 := by
  unfold matchN
  rw [if_neg (by decide)]
  have h1 : sby (cutA ByteArray.empty ++ S20) = T20 := by decide +kernel
  have h2 : (cutA ByteArray.empty).size = 0 := by decide +kernel
  rw [h1, h2]
  exact z9
theorem z11 : (toksB fixL fixD L20 2).length + (cword fixL 256).length < 40 := by decide +kernel
theorem all_20 : (allN 6 S20).length < 10 := by
  rw [allN_eq, by8_length]
  unfold partB
  rw [if_neg (by decide), z10]
  have h1 : sizeN 1 S20 L20 < 43 := by
    unfold sizeN
    rw [if_neg (by decide)]
    have := z11
    show ((([] : List Bool) ++ nb 3 (2 + if false then 1 else 0) ++ toksB fixL fixD L20 L20.length ++ cword fixL 256)).length < 43
    rw [List.length_append, List.length_append, List.length_append, nb_length]
    have e : L20.length = 2 := rfl
    rw [e]
    simp
    omega
  have h0 : sizeN 0 S20 L20 = 195 := rfl
  have hm := chooseN_min S20 L20 1 (by omega)
  generalize chooseN S20 L20 = c at hm ⊢
  have hc : c ≠ 0 := by
    rintro rfl
    omega
  have hz : sizeN c S20 L20 = (blockB [] c false S20 L20).length := if_neg hc
  have h2 := algn_le (blockB [] c true S20 L20)
  rw [blockB_last, ← hz] at h2
  omega
end Go.Proofs.YtakoidkeaccgeaaDoor
