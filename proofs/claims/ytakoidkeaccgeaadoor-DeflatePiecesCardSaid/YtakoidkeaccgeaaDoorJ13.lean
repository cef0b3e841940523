/- The bit writer's functions. -/
import Derived.Test.YtakoidkeaccgeaaDoorProg
import Derived.Test.YtakoidkeaccgeaaDoorJ1
import Derived.Test.YtakoidkeaccgeaaDoorJ10
namespace Go.Proofs.YtakoidkeaccgeaaDoor
open Go.RowKit
variable {F : Nat → Option Value}
theorem infoU8 : (Tryd.prog.info? 5).map (fun i => (i.zero, i.size, i.bytes)) = some (some (.int .u8 0), 1, 1) := by kernel_rfl

def u8s (l : List Nat) : List Value := l.map fun d : Nat => .int .u8 (d : Int)
theorem u8s_append (l m : List Nat) : u8s (l ++ m) = u8s l ++ u8s m := by simp [u8s]
theorem u8s_length (l : List Nat) : (u8s l).length = l.length := by simp [u8s]

/-- A bit writer at block b from cell o on: whole bytes 'done', 'n' bits more in 'acc'. Its row lies in a block of S. -/
def WRest (F : Nat → Option Value) (w : World) (b o : Nat) : Prop := (∀ j, (j < o ∨ o + 3 ≤ j) → w.cell? ⟨b, j, none⟩ = F j) ∧ ∀ j, w.frozen? ⟨b, j, none⟩ = false
theorem WRest.chg {w w' : World} {T : Nat → Prop} {b o : Nat} (h : WRest F w b o) (hc : Chg T w w') (hb : ¬ T b) (lb : b < w.heap.size) : WRest F w' b o :=
  ⟨fun j hj => (World.cell?_of_block (w := w) (hc.block b lb hb)).trans (h.1 j hj), fun j => (World.frozen?_of_block (w := w) (hc.block b lb hb)).trans (h.2 j)⟩
theorem WRest.set {w : World} {b o : Nat} (h : WRest F w b o) (i : Nat) (hi : i < 3) (u : Value) : WRest F (w.setCell ⟨b, o + i, none⟩ u) b o :=
  ⟨fun j hj => by rw [World.cell?_setCell_other _ _ _ _ (by intro he; injection he with _ he; omega)]; exact h.1 j hj, fun j => by simpa using h.2 j⟩
theorem WRest.drew {w : World} {b o : Nat} (h : WRest F w b o) : WRest F w.drew b o := h
def WS (F : Nat → Option Value) (w : World) (S : Nat → Prop) (b o : Nat) (done : List Nat) (acc n : Nat) : Prop :=
  ∃ v, w.cell? ⟨b, o, none⟩ = some v ∧ w.cell? ⟨b, o + 1, none⟩ = some (.int .u64 (acc : Int)) ∧ w.cell? ⟨b, o + 2, none⟩ = some (.int .i64 (n : Int)) ∧
    w.frozen? ⟨b, o, none⟩ = false ∧ w.frozen? ⟨b, o + 1, none⟩ = false ∧ w.frozen? ⟨b, o + 2, none⟩ = false ∧
    w.ownsRow 0 5 1 v done.length (u8s done) ∧ (∀ k, v.ownBlock = some k → S k ∧ k ≠ b) ∧ WRest F w b o

theorem WS.stores {w : World} {S : Nat → Prop} {b o : Nat} {done : List Nat} {acc n : Nat} {v x0 x1 x2 : Value} (k0 : w.cell? ⟨b, o, none⟩ = some x0) (k1 : w.cell? ⟨b, o + 1, none⟩ = some x1) (k2 : w.cell? ⟨b, o + 2, none⟩ = some x2)
    (e0 : w.frozen? ⟨b, o, none⟩ = false) (e1 : w.frozen? ⟨b, o + 1, none⟩ = false) (e2 : w.frozen? ⟨b, o + 2, none⟩ = false)
    (hown : w.ownsRow 0 5 1 v done.length (u8s done)) (hS : ∀ k, v.ownBlock = some k → S k ∧ k ≠ b) (hR : WRest F w b o) {a c : Value} (ha : a = .int .u64 (acc : Int)) (hc : c = .int .i64 (n : Int)) :
    WS F (((w.setCell ⟨b, o, none⟩ v).setCell ⟨b, o + 1, none⟩ a).setCell ⟨b, o + 2, none⟩ c) S b o done acc n := by
  subst ha hc
  have n01 : (⟨b, o, none⟩ : Addr) ≠ ⟨b, o + 1, none⟩ := by simp
  have n02 : (⟨b, o, none⟩ : Addr) ≠ ⟨b, o + 2, none⟩ := by simp
  have n12 : (⟨b, o + 1, none⟩ : Addr) ≠ ⟨b, o + 2, none⟩ := by simp
  refine ⟨v, ?_, ?_, ?_, ?_, ?_, ?_, ?_, hS, ((hR.set 0 (by omega) _).set 1 (by omega) _).set 2 (by omega) _⟩
  · rw [World.cell?_setCell_other _ _ _ _ n02.symm, World.cell?_setCell_other _ _ _ _ n01.symm]; exact World.cell?_setCell_same _ _ _ k0
  · rw [World.cell?_setCell_other _ _ _ _ n12.symm]; refine World.cell?_setCell_same _ _ _ (u := x1) ?_; rw [World.cell?_setCell_other _ _ _ _ n01]; exact k1
  · refine World.cell?_setCell_same _ _ _ (u := x2) ?_; rw [World.cell?_setCell_other _ _ _ _ n12, World.cell?_setCell_other _ _ _ _ n02]; exact k2
  · simpa using e0
  · simpa using e1
  · simpa using e2
  · have h1 : Chg (fun k => k = b) w (((w.setCell ⟨b, o, none⟩ v).setCell ⟨b, o + 1, none⟩ (.int .u64 (acc : Int))).setCell ⟨b, o + 2, none⟩ (.int .i64 (n : Int))) := (((Chg.refl (fun k => k = b) w).setCell (p := ⟨b, o, none⟩) (Or.inl rfl) _).setCell (p := ⟨b, o + 1, none⟩) (Or.inl rfl) _).setCell (p := ⟨b, o + 2, none⟩) (Or.inl rfl) _
    exact h1.own hown (fun k hk => (hS k hk).2)
theorem WS.mono {w : World} {S T : Nat → Prop} {b o : Nat} {done : List Nat} {acc n : Nat} (h : WS F w S b o done acc n) (hT : ∀ k, S k → T k) : WS F w T b o done acc n := by
  obtain ⟨v, h0, h1, h2, f0, f1, f2, hown, hS, hR⟩ := h
  exact ⟨v, h0, h1, h2, f0, f1, f2, hown, fun k hk => ⟨hT k (hS k hk).1, (hS k hk).2⟩, hR⟩
theorem WS.tight {w : World} {S : Nat → Prop} {b o : Nat} {done : List Nat} {acc n : Nat} (h : WS F w S b o done acc n) : WS F w (fun k => S k ∧ k < w.heap.size) b o done acc n := by
  obtain ⟨v, h0, h1, h2, f0, f1, f2, hown, hS, hR⟩ := h
  exact ⟨v, h0, h1, h2, f0, f1, f2, hown, fun k hk => ⟨⟨(hS k hk).1, own_blk_lt hown k hk⟩, (hS k hk).2⟩, hR⟩
theorem WS.chg {w w' : World} {S T : Nat → Prop} {b o : Nat} {done : List Nat} {acc n : Nat} (h : WS F w S b o done acc n) (hc : Chg T w w') (hS : ∀ k, S k → k < w.heap.size → ¬ T k) (hb : ¬ T b) : WS F w' S b o done acc n := by
  obtain ⟨v, h0, h1, h2, f0, f1, f2, hown, hS', hR⟩ := h
  have lb := World.block_lt_of_cell? w _ h0
  exact ⟨v, hc.cell h0 hb, hc.cell h1 hb, hc.cell h2 hb, (hc.frozen (p := ⟨b, o, none⟩) lb hb).trans f0, (hc.frozen (p := ⟨b, o + 1, none⟩) lb hb).trans f1, (hc.frozen (p := ⟨b, o + 2, none⟩) lb hb).trans f2, hc.own hown (fun k hk => hS k (hS' k hk).1 (own_blk_lt hown k hk)), hS', hR.chg hc hb lb⟩
theorem WS.lt {w : World} {S : Nat → Prop} {b o : Nat} {done : List Nat} {acc n : Nat} (h : WS F w S b o done acc n) : b < w.heap.size := by
  obtain ⟨v, h0, _⟩ := h
  exact World.block_lt_of_cell? w _ h0

theorem spillDone_mono : ∀ (k j : Nat) (done : List Nat) (acc n : Nat), n ≤ k → n ≤ j → spillDone k done acc n = spillDone j done acc n
  | 0, 0, _, _, _, _, _ => rfl
  | 0, j + 1, done, acc, n, h, _ => by simp [spillDone, show ¬ 8 ≤ n by omega]
  | k + 1, 0, done, acc, n, _, h => by simp [spillDone, show ¬ 8 ≤ n by omega]
  | k + 1, j + 1, done, acc, n, h, h' => by
    unfold spillDone
    split
    · exact spillDone_mono k j _ _ _ (by omega) (by omega)
    · rfl
theorem spill_step {g n acc' acc : Nat} {done' done : List Nat} (h8 : 8 ≤ g) (q1 : spillDone g done' acc' g = spillDone n done acc n) (q2 : acc' / 256 ^ (g / 8) = acc / 256 ^ (n / 8)) (q3 : g % 8 = n % 8) :
    spillDone (g - 8) (done' ++ [acc' % 256]) (acc' / 256) (g - 8) = spillDone n done acc n ∧ acc' / 256 / 256 ^ ((g - 8) / 8) = acc / 256 ^ (n / 8) ∧ (g - 8) % 8 = n % 8 := by
  refine ⟨?_, ?_, by omega⟩
  · rw [← q1]
    obtain ⟨m, rfl⟩ : ∃ m, g = m + 1 := ⟨g - 1, by omega⟩
    rw [show spillDone (m + 1) done' acc' (m + 1) = spillDone m (done' ++ [acc' % 256]) (acc' / 256) (m + 1 - 8) from if_pos h8]
    exact spillDone_mono _ _ _ _ _ (by omega) (by omega)
  · rw [← q2, Nat.div_div_eq_div_mul, ← Nat.pow_succ']
    congr 2
    omega
theorem spill_end {w : World} {S : Nat → Prop} {b o g n acc' acc : Nat} {done' done : List Nat} (h8 : ¬ 8 ≤ g) (q1 : spillDone g done' acc' g = spillDone n done acc n) (q2 : acc' / 256 ^ (g / 8) = acc / 256 ^ (n / 8)) (q3 : g % 8 = n % 8) (h : WS F w S b o done' acc' g) :
    WS F w S b o (spillDone n done acc n) (acc / 256 ^ (n / 8)) (n % 8) := by
  rw [← q1, ← q2, ← q3, show g / 8 = 0 by omega, show g % 8 = g by omega]
  have : spillDone g done' acc' g = done' := by
    cases g with
    | zero => rfl
    | succ m => unfold spillDone; rw [if_neg h8]
  rw [this]
  simpa using h

set_option maxHeartbeats 1600000 in
set_option maxRecDepth 100000 in
theorem spill_calls (b o : Nat) (S : Nat → Prop) (done : List Nat) (acc n : Nat) (w : World) (h : WS F w S b o done acc n) (ha : acc < 2 ^ 64) (hn : n ≤ 64) (hlen : done.length ≤ 70368744177664) :
    Calls Tryd.prog 39 #[.pointer (some ⟨b, o, none⟩)] w fun e w' => e = .returned (.tuple #[]) ∧
      WS F w' (fun k => S k ∨ w.heap.size ≤ k) b o (spillDone n done acc n) (acc / 256 ^ (n / 8)) (n % 8) ∧ Chg (fun k => S k ∨ k = b) w w' := by
  obtain ⟨v, h0, h1, h2, f0, f1, f2, hown, hS, hR⟩ := h
  have HR := Lib.hid hR
  clear hR
  go_enter Tryd.func39, Tryd.ntmps39
  go_wp2
  go_loopg [] n (fun kq wr => ∃ (done' : List Nat) (acc' : Nat), Hid (kq ≤ n) ∧ Hid (acc' < 2 ^ 64) ∧ Hid (done'.length + kq ≤ done.length + n) ∧ Hid (spillDone kq done' acc' kq = spillDone n done acc n ∧ acc' / 256 ^ (kq / 8) = acc / 256 ^ (n / 8) ∧ kq % 8 = n % 8) ∧
    Hid (WS F wr (fun k => S k ∨ w.heap.size ≤ k) b o done' acc' kq) ∧ Hid (Chg (fun k => S k ∨ k = b) w wr))
  case atStart =>
    exact ⟨done, acc, Nat.le_refl n, ha, Nat.le_refl _, ⟨rfl, rfl, rfl⟩, ⟨v, h0, h1, h2, f0, f1, f2, hown, fun k hk => ⟨Or.inl (hS k hk).1, (hS k hk).2⟩, HR.out⟩, Chg.refl _ _⟩
  case round =>
    clear h0 h1 h2 f0 f1 f2 hown hS v HR
    obtain ⟨done', acc', hk, ha', hl', heq, hW, hC⟩ := hrel
    obtain ⟨v, h0, h1, h2, f0, f1, f2, hown, hS, hR⟩ := hW.out
    have HR := Lib.hid hR
    clear hR
    obtain ⟨i0, hi0, hz0, hz1, hz2⟩ := info_parts infoU8
    have hkk := hk.out
    have hll := hl'.out
    have lb := World.block_lt_of_cell? wr _ h0
    have hvb : v.ownBlock ≠ some b := fun e => (hS b e).2 rfl
    have hfa : ∀ X, (wr.alloc X).frozen? ⟨b, o, none⟩ = false := fun X => (World.frozen?_alloc_past _ _ _ lb).trans f0
    by_cases h8 : 8 ≤ gk
    · go_wp2
      go_region_law (refine step_append_lies _ (by rfl) _ _ _ (by rfl) 0 5 i0 _ 1 1 Tryd.underlying25 hi0 hz0 hz1 hz2 rfl (by omega) v done'.length (u8s done') (by rfl) ((hown.alloc _).drew) ⟨wr.heap.size, 0, none⟩ 1 1 [.int .u8 (IntKind.u8.wrap (acc' : Int))] (by rfl) (by rfl) (World.news_of_block (cs := #[.int .u8 (IntKind.u8.wrap (acc' : Int))]) (t := 5) (fr := (0, 0)) (heap_alloc_new wr _)) (by simp [Value.oneCell']) (by omega) (by unfold maxLen; omega) (by omega) (by simp) (wr.heap.size + 1) (by simp) ?_; intro gg cap w1 hown1 hgrow hat hlt; have hc1 : Chg (fun k => v.ownBlock = some k) wr w1 := (((Chg.refl _ _).alloc _).drew).grown hgrow (fun k hk => Or.inl hk); have k0 := hc1.cell h0 hvb; have k1 := hc1.cell h1 hvb; have k2 := hc1.cell h2 hvb; have e0 := (hc1.frozen (p := ⟨b, o, none⟩) lb hvb).trans f0; have e1 := (hc1.frozen (p := ⟨b, o + 1, none⟩) lb hvb).trans f1; have e2 := (hc1.frozen (p := ⟨b, o + 2, none⟩) lb hvb).trans f2)
      all_goals
        go_wp2
        go_roundg (gk - 8)
        case measure => omega
        case rel =>
          refine ⟨done' ++ [acc' % 256], acc' / 256, ?_, ?_, ?_, ?_, ?_, ?_⟩
          · show gk - 8 ≤ n; omega
          · show acc' / 256 < 2 ^ 64; have := ha'.out; omega
          · show (done' ++ [acc' % 256]).length + (gk - 8) ≤ done.length + n; simp; omega
          · obtain ⟨q1, q2, q3⟩ := heq.out
            exact spill_step h8 q1 q2 q3
          · refine WS.stores k0 k1 k2 e0 e1 e2 ?_ ?_ (HR.out.chg hc1 hvb lb) (by simp) (by congr 1; omega)
            · simpa [u8s_append, u8s, IntKind.wrap_u8] using hown1
            · intro k hk
              have hk : gg = k := by simpa [Value.ownBlock] using hk
              subst hk
              rcases hat with hat | hat
              · exact hS gg hat
              · have := hC.out.size; exact ⟨Or.inr (by omega), by omega⟩
          · show Chg (fun k => S k ∨ k = b) w _
            refine (((hC.out.trans hc1 ?_).setCell (Or.inl (Or.inr rfl)) _).setCell (Or.inl (Or.inr rfl)) _).setCell (Or.inl (Or.inr rfl)) _
            intro k hk
            rcases (hS k hk).1 with h | h
            · exact Or.inl (Or.inl h)
            · exact Or.inr h
    · go_wp2
      go_end0
      obtain ⟨q1, q2, q3⟩ := heq.out
      exact ⟨rfl, spill_end h8 q1 q2 q3 hW.out, hC.out⟩
end Go.Proofs.YtakoidkeaccgeaaDoor

/- The bit writer's functions, told by bits. -/
namespace Go.Proofs.YtakoidkeaccgeaaDoor
open Go.RowKit
variable {F : Nat → Option Value}

/-- A bit writer at block b from cell o on that holds the bits bs; its row lies in a block of S. -/
def WB (F : Nat → Option Value) (w : World) (S : Nat → Prop) (b o : Nat) (bs : List Bool) : Prop :=
  ∃ done acc n, WS F w S b o done acc n ∧ n < 8 ∧ acc < 2 ^ n ∧ (∀ d ∈ done, d < 256) ∧ byb done ++ nb n acc = bs
theorem WB.mono {w : World} {S T : Nat → Prop} {b o : Nat} {bs : List Bool} (h : WB F w S b o bs) (hT : ∀ k, S k → T k) : WB F w T b o bs := by
  obtain ⟨done, acc, n, h, r⟩ := h
  exact ⟨done, acc, n, h.mono hT, r⟩
theorem WB.tight {w : World} {S : Nat → Prop} {b o : Nat} {bs : List Bool} (h : WB F w S b o bs) : WB F w (fun k => S k ∧ k < w.heap.size) b o bs := by
  obtain ⟨done, acc, n, h, r⟩ := h
  exact ⟨done, acc, n, h.tight, r⟩
theorem WB.chg {w w' : World} {S T : Nat → Prop} {b o : Nat} {bs : List Bool} (h : WB F w S b o bs) (hc : Chg T w w') (hS : ∀ k, S k → k < w.heap.size → ¬ T k) (hb : ¬ T b) : WB F w' S b o bs := by
  obtain ⟨done, acc, n, h, r⟩ := h
  exact ⟨done, acc, n, h.chg hc hS hb, r⟩
theorem WB.lt {w : World} {S : Nat → Prop} {b o : Nat} {bs : List Bool} (h : WB F w S b o bs) : b < w.heap.size := by
  obtain ⟨done, acc, n, h, r⟩ := h
  exact h.lt

theorem WS.stores2 {w : World} {S : Nat → Prop} {b o : Nat} {done : List Nat} {acc n : Nat} {v x1 x2 : Value} (k0 : w.cell? ⟨b, o, none⟩ = some v) (k1 : w.cell? ⟨b, o + 1, none⟩ = some x1) (k2 : w.cell? ⟨b, o + 2, none⟩ = some x2)
    (e0 : w.frozen? ⟨b, o, none⟩ = false) (e1 : w.frozen? ⟨b, o + 1, none⟩ = false) (e2 : w.frozen? ⟨b, o + 2, none⟩ = false)
    (hown : w.ownsRow 0 5 1 v done.length (u8s done)) (hS : ∀ k, v.ownBlock = some k → S k ∧ k ≠ b) (hR : WRest F w b o) {a c : Value} (ha : a = .int .u64 (acc : Int)) (hc : c = .int .i64 (n : Int)) :
    WS F (((w.setCell ⟨b, o + 1, none⟩ a).setCell ⟨b, o + 2, none⟩ c).drew) S b o done acc n := by
  subst ha hc
  have n01 : (⟨b, o, none⟩ : Addr) ≠ ⟨b, o + 1, none⟩ := by simp
  have n02 : (⟨b, o, none⟩ : Addr) ≠ ⟨b, o + 2, none⟩ := by simp
  have n12 : (⟨b, o + 1, none⟩ : Addr) ≠ ⟨b, o + 2, none⟩ := by simp
  refine ⟨v, ?_, ?_, ?_, ?_, ?_, ?_, ?_, hS, ((hR.set 1 (by omega) _).set 2 (by omega) _).drew⟩
  · show World.cell? ((w.setCell _ _).setCell _ _) _ = _
    rw [World.cell?_setCell_other _ _ _ _ n02.symm, World.cell?_setCell_other _ _ _ _ n01.symm]; exact k0
  · show World.cell? ((w.setCell _ _).setCell _ _) _ = _
    rw [World.cell?_setCell_other _ _ _ _ n12.symm]; exact World.cell?_setCell_same _ _ _ k1
  · show World.cell? ((w.setCell _ _).setCell _ _) _ = _
    refine World.cell?_setCell_same _ _ _ (u := x2) ?_; rw [World.cell?_setCell_other _ _ _ _ n12]; exact k2
  · show World.frozen? ((w.setCell _ _).setCell _ _) _ = _
    simpa using e0
  · show World.frozen? ((w.setCell _ _).setCell _ _) _ = _
    simpa using e1
  · show World.frozen? ((w.setCell _ _).setCell _ _) _ = _
    simpa using e2
  · have h1 : Chg (fun k => k = b) w (((w.setCell ⟨b, o + 1, none⟩ (.int .u64 (acc : Int))).setCell ⟨b, o + 2, none⟩ (.int .i64 (n : Int))).drew) := (((Chg.refl (fun k => k = b) w).setCell (p := ⟨b, o + 1, none⟩) (Or.inl rfl) _).setCell (p := ⟨b, o + 2, none⟩) (Or.inl rfl) _).drew
    exact h1.own hown (fun k hk => (hS k hk).2)
theorem write_bound (n acc k v : Nat) (hn : n < 8) (hacc : acc < 2 ^ n) (h2 : k ≤ 32) : acc + v % 2 ^ k * 2 ^ n < 2 ^ 64 ∧ acc + v % 2 ^ k * 2 ^ n < 2 ^ (n + k) := by
  have hm : v % 2 ^ k < 2 ^ k := Nat.mod_lt _ (Nat.two_pow_pos k)
  have hk : (2 : Nat) ^ (n + k) ≤ 2 ^ 39 := Nat.pow_le_pow_right (by decide) (by omega)
  have hp : (v % 2 ^ k + 1) * 2 ^ n ≤ 2 ^ k * 2 ^ n := Nat.mul_le_mul_right _ hm
  rw [Nat.add_mul] at hp
  have e : (2 : Nat) ^ (n + k) = 2 ^ k * 2 ^ n := by rw [Nat.pow_add, Nat.mul_comm]
  omega
theorem write_acc (acc n v k : Nat) (hn : n < 8) (hacc : acc < 2 ^ n) (hv : v < 2 ^ 64) (h2 : k ≤ 32) :
    bits .or .u64 (acc : Int) (IntKind.u64.wrap (bits .and .u64 (v : Int) (IntKind.u64.wrap (IntKind.u64.wrap (2 ^ k) - 1)) * 2 ^ n)) = ((acc + v % 2 ^ k * 2 ^ n : Nat) : Int) := by
  have hk : (2 : Nat) ^ k ≤ 2 ^ 32 := Nat.pow_le_pow_right (by decide) h2
  have hk0 : 0 < 2 ^ k := Nat.two_pow_pos k
  have hn8 : (2 : Nat) ^ n ≤ 2 ^ 7 := Nat.pow_le_pow_right (by decide) (by omega)
  have hc : ((2 : Int) ^ k) = ((2 ^ k : Nat) : Int) := by simp
  have hcn : ((2 : Int) ^ n) = ((2 ^ n : Nat) : Int) := by simp
  have e1 : IntKind.u64.wrap (2 ^ k) = (2 ^ k : Int) := wraps_u64 _ (by rw [hc]; omega) (by rw [hc]; omega)
  have e2 : IntKind.u64.wrap ((2 ^ k : Int) - 1) = 2 ^ k - 1 := wraps_u64 _ (by rw [hc]; omega) (by rw [hc]; omega)
  rw [e1, e2, bits_mask .u64 64 (by decide) wraps_u64 k (by omega) (v : Int) (by omega) (by omega)]
  have hm : v % 2 ^ k < 2 ^ k := Nat.mod_lt _ hk0
  have hp : v % 2 ^ k * 2 ^ n ≤ 2 ^ 32 * 2 ^ 7 := Nat.mul_le_mul (by omega) hn8
  have e3 : ((v : Int) % 2 ^ k * 2 ^ n) = ((v % 2 ^ k * 2 ^ n : Nat) : Int) := by
    rw [Int.natCast_mul, Int.natCast_emod, hc, hcn]
  rw [e3, wraps_u64 _ (by omega) (by omega), (bits_nat .u64 64 (by decide) wraps_u64 acc _ (by omega) (by omega)).2]
  rw [Nat.or_comm, Nat.mul_comm _ (2 ^ n), ← Nat.two_pow_add_eq_or_of_lt hacc, Nat.add_comm]

set_option maxHeartbeats 1600000 in
set_option maxRecDepth 100000 in
theorem write_calls (b o : Nat) (S : Nat → Prop) (bs : List Bool) (v k : Nat) (w : World) (h : WB F w S b o bs) (hv : v < 2 ^ 64) (h1 : 1 ≤ k) (h2 : k ≤ 32) (hlen : bs.length ≤ 281474976710656) :
    Calls Tryd.prog 22 #[.pointer (some ⟨b, o, none⟩), .int .u64 (v : Int), .int .i64 (k : Int)] w fun e w' => e = .returned (.tuple #[]) ∧
      WB F w' (fun i => S i ∨ w.heap.size ≤ i) b o (bs ++ nb k v) ∧ Chg (fun i => S i ∨ i = b) w w' := by
  obtain ⟨done, acc, n, ⟨vv, c0, c1, c2, f0, f1, f2, hown, hS, hR⟩, hn, hacc, hby, rfl⟩ := h
  have HR := Lib.hid hR
  clear hR
  have k1 : decide ((k : Int) < 1) = false := by simp; omega
  have k2 : decide (32 < (k : Int)) = false := by simp; omega
  go_enter Tryd.func22, Tryd.ntmps22
  go_wp2
  go_region
  go_wp2_with fail
  have hW : WS F (((w.setCell ⟨b, o + 1, none⟩ (.int .u64 (bits .or .u64 (acc : Int) (IntKind.u64.wrap (bits .and .u64 (v : Int) (IntKind.u64.wrap (IntKind.u64.wrap (2 ^ k) - 1)) * 2 ^ n))))).setCell ⟨b, o + 2, none⟩ (.int .i64 ((n : Int) + (k : Int)))).drew) S b o done (acc + v % 2 ^ k * 2 ^ n) (n + k) :=
    WS.stores2 c0 c1 c2 f0 f1 f2 hown hS HR.out (by rw [write_acc acc n v k hn hacc hv h2]) (by rw [Int.natCast_add])
  have hC : Chg (fun i => S i ∨ i = b) w (((w.setCell ⟨b, o + 1, none⟩ (.int .u64 (bits .or .u64 (acc : Int) (IntKind.u64.wrap (bits .and .u64 (v : Int) (IntKind.u64.wrap (IntKind.u64.wrap (2 ^ k) - 1)) * 2 ^ n))))).setCell ⟨b, o + 2, none⟩ (.int .i64 ((n : Int) + (k : Int)))).drew) :=
    (((Chg.refl _ w).setCell (Or.inl (Or.inr rfl)) _).setCell (Or.inl (Or.inr rfl)) _).drew
  generalize (((w.setCell ⟨b, o + 1, none⟩ (.int .u64 (bits .or .u64 (acc : Int) (IntKind.u64.wrap (bits .and .u64 (v : Int) (IntKind.u64.wrap (IntKind.u64.wrap (2 ^ k) - 1)) * 2 ^ n))))).setCell ⟨b, o + 2, none⟩ (.int .i64 ((n : Int) + (k : Int)))).drew) = w1 at hW hC ⊢
  have hb := write_bound n acc k v hn hacc h2
  refine (spill_calls b o S done _ _ w1 hW (by omega) (by omega) (by have := byb_length done; simp at hlen; omega)).mono ?_
  rintro e w2 ⟨rfl, hW2, hC2⟩
  have hsz := hC.size
  go_wp2
  go_end0
  refine ⟨rfl, ⟨_, _, _, hW2.mono ?_, by omega, ?_, spill_bytes _ _ _ _ hby, ?_⟩, hC.trans hC2 (fun i h => Or.inl h)⟩
  · intro i hi
    rcases hi with hi | hi
    · exact Or.inl hi
    · exact Or.inr (by omega)
  · exact spill_acc _ _ hb.2
  · rw [spill_bits _ _ _ _ (Nat.le_refl _), nb_join n k acc v hacc, List.append_assoc]
end Go.Proofs.YtakoidkeaccgeaaDoor

/- The bit writer's other functions. -/
namespace Go.Proofs.YtakoidkeaccgeaaDoor
open Go.RowKit
variable {F : Nat → Option Value}

/-- The string of bytes. -/
def bstr (l : List Nat) : ByteArray := ⟨(l.map UInt8.ofNat).toArray⟩
theorem bstr_size (l : List Nat) : (bstr l).size = l.length := by simp [bstr, ByteArray.size]
def sby (s : ByteArray) : List Nat := s.data.toList.map UInt8.toNat

theorem own_string {P : Program} {w : World} {e src dst : TypeId} {v : Value} {l : List Nat} (h : w.ownsRow 0 e 1 v l.length (u8s l)) (hs : P.underlying src = some (.slice e)) (he : P.underlying e = some (.int .u8)) (hd : P.underlying dst = some .string) :
    (convert src dst v).run P w = .ok (.string (bstr l)) w := by
  rcases h.2 with ⟨rfl, h0⟩ | ⟨g, cap, cur, rfl, hr⟩
  · have : l = [] := List.eq_nil_of_length_eq_zero h0
    subst this
    rw [run_convert_bytes_nil w src e hs he 0 0 dst hd]
    rfl
  · have := run_convert_bytes_arg (P := P) w src e hs he g 0 l.length cap (l.map fun d : Nat => (d : Int)) (by simp) (by
      intro i hi
      have hc := h.cells (g := g) rfl i (.int .u8 ((l.map fun d : Nat => (d : Int)).getD i 0)) (by simp [u8s, hi])
      have ha : (⟨g, 0, none⟩ : Addr).add i = ⟨g, 0 + i, none⟩ := by unfold Addr.add; split <;> simp_all
      rw [ha] at hc; exact hc) dst hd
    rw [this]
    simp [strOfNums, bstr, Function.comp_def]
theorem WS.store0 {w : World} {S : Nat → Prop} {b o : Nat} {done : List Nat} {acc n : Nat} {v x0 : Value} (k0 : w.cell? ⟨b, o, none⟩ = some x0) (k1 : w.cell? ⟨b, o + 1, none⟩ = some (.int .u64 (acc : Int))) (k2 : w.cell? ⟨b, o + 2, none⟩ = some (.int .i64 (n : Int)))
    (e0 : w.frozen? ⟨b, o, none⟩ = false) (e1 : w.frozen? ⟨b, o + 1, none⟩ = false) (e2 : w.frozen? ⟨b, o + 2, none⟩ = false)
    (hown : w.ownsRow 0 5 1 v done.length (u8s done)) (hS : ∀ k, v.ownBlock = some k → S k ∧ k ≠ b) (hR : WRest F w b o) : WS F (w.setCell ⟨b, o, none⟩ v) S b o done acc n := by
  have n01 : (⟨b, o, none⟩ : Addr) ≠ ⟨b, o + 1, none⟩ := by simp
  have n02 : (⟨b, o, none⟩ : Addr) ≠ ⟨b, o + 2, none⟩ := by simp
  have h1 : Chg (fun k => k = b) w (w.setCell ⟨b, o, none⟩ v) := (Chg.refl (fun k => k = b) w).setCell (p := ⟨b, o, none⟩) (Or.inl rfl) _
  refine ⟨v, World.cell?_setCell_same _ _ _ k0, ?_, ?_, by simpa using e0, by simpa using e1, by simpa using e2, h1.own hown (fun k hk => (hS k hk).2), hS, hR.set 0 (by omega) _⟩
  · rw [World.cell?_setCell_other _ _ _ _ n01]; exact k1
  · rw [World.cell?_setCell_other _ _ _ _ n02]; exact k2
theorem WS.drewN {w : World} {S : Nat → Prop} {b o : Nat} {done : List Nat} {acc n : Nat} (h : WS F w S b o done acc n) (m : Nat) : WS F (w.drewN m) S b o done acc n := h
theorem WB.drewN {w : World} {S : Nat → Prop} {b o : Nat} {bs : List Bool} (h : WB F w S b o bs) (m : Nat) : WB F (w.drewN m) S b o bs := h
theorem WB.len_mod {bs : List Bool} {done acc n} (h2 : n < 8) (he : byb done ++ nb n acc = bs) : bs.length % 8 = n := by
  rw [← he, List.length_append, byb_length, nb_length]; omega
theorem nb_zero : ∀ k, nb k 0 = List.replicate k false
  | 0 => rfl
  | k + 1 => by rw [nb, List.replicate_succ]; simp [nb_zero k]
/-- What aligns bits. -/
def algn (bs : List Bool) : List Bool := bs ++ List.replicate ((8 - bs.length % 8) % 8) false
theorem algn_len (bs : List Bool) : (algn bs).length % 8 = 0 := by simp [algn]; omega
theorem algn_le (bs : List Bool) : (algn bs).length ≤ bs.length + 7 := by simp [algn]; omega

set_option maxHeartbeats 1600000 in
set_option maxRecDepth 100000 in
theorem write0_calls (a : Addr) (v : Int) (k : Int) (w : World) (h1 : k < 1) :
    Calls Tryd.prog 22 #[.pointer (some a), .int .u64 v, .int .i64 k] w fun e w' => e = .returned (.tuple #[]) ∧ w' = w := by
  have k1 : decide (k < 1) = true := by simp; omega
  go_enter Tryd.func22, Tryd.ntmps22
  go_wp2
  go_returns
  exact ⟨rfl, rfl⟩

/-- Write, of no bits too. -/
theorem writeA_calls (b o : Nat) (S : Nat → Prop) (bs : List Bool) (v k : Nat) (w : World) (h : WB F w S b o bs) (hv : v < 2 ^ 64) (h2 : k ≤ 32) (hlen : bs.length ≤ 281474976710656) :
    Calls Tryd.prog 22 #[.pointer (some ⟨b, o, none⟩), .int .u64 (v : Int), .int .i64 (k : Int)] w fun e w' => e = .returned (.tuple #[]) ∧
      WB F w' (fun i => S i ∨ w.heap.size ≤ i) b o (bs ++ nb k v) ∧ Chg (fun i => S i ∨ i = b) w w' := by
  by_cases h1 : 1 ≤ k
  · exact write_calls b o S bs v k w h hv h1 h2 hlen
  · obtain rfl : k = 0 := by omega
    refine (write0_calls _ _ _ w (by omega)).mono ?_
    rintro e w' ⟨rfl, rfl⟩
    exact ⟨rfl, by simpa [nb] using h.mono (fun _ h => Or.inl h), Chg.refl _ _⟩

set_option maxHeartbeats 1600000 in
set_option maxRecDepth 100000 in
theorem align_calls (b o : Nat) (S : Nat → Prop) (bs : List Bool) (w : World) (h : WB F w S b o bs) (hlen : bs.length ≤ 281474976710656) :
    Calls Tryd.prog 8 #[.pointer (some ⟨b, o, none⟩)] w fun e w' => e = .returned (.tuple #[]) ∧
      WB F w' (fun i => S i ∨ w.heap.size ≤ i) b o (algn bs) ∧ Chg (fun i => S i ∨ i = b) w w' := by
  have HW := Lib.hid h
  obtain ⟨done, acc, n, ⟨vv, c0, c1, c2, f0, f1, f2, hown, hS, hR⟩, hn, hacc, hby, he⟩ := h
  have HR := Lib.hid hR
  clear hR
  have hm := WB.len_mod hn he
  have HM := Lib.hid hm
  clear c0 c1 f0 f1 f2 hown hS he hm hby hacc
  by_cases h0 : 0 < n
  · have k1 : decide ((0 : Int) < (n : Int)) = true := by simp; omega
    have e1 : (8 : Int) - (n : Int) = ((8 - n : Nat) : Int) := by omega
    have E1 := Lib.hid e1
    clear e1
    go_enter Tryd.func8, Tryd.ntmps8
    go_wp2_with fail
    rw [E1.out]
    refine (write_calls b o S bs 0 (8 - n) w HW.out (by decide) (by omega) (by omega) hlen).mono ?_
    rintro e w2 ⟨rfl, hW2, hC2⟩
    go_wp2
    go_end0
    refine ⟨rfl, ?_, hC2⟩
    rw [nb_zero] at hW2
    have hm := HM.out
    rw [algn, hm, show (8 - n) % 8 = 8 - n by omega]
    exact hW2
  · obtain rfl : n = 0 := by omega
    go_enter Tryd.func8, Tryd.ntmps8
    go_wp2
    go_end0
    refine ⟨rfl, ?_, Chg.refl _ _⟩
    have hm := HM.out
    rw [algn, hm]
    simpa using HW.out.mono (fun _ h => Or.inl h)

set_option maxHeartbeats 1600000 in
set_option maxRecDepth 100000 in
theorem len_calls (b o : Nat) (S : Nat → Prop) (bs : List Bool) (w : World) (h : WB F w S b o bs) (hlen : bs.length ≤ 281474976710656) :
    Calls Tryd.prog 31 #[.pointer (some ⟨b, o, none⟩)] w fun e w' => e = .returned (.int .i64 (bs.length : Int)) ∧ ∃ m, w' = w.drewN m := by
  obtain ⟨done, acc, n, ⟨vv, c0, c1, c2, f0, f1, f2, hown, hS, hR⟩, hn, hacc, hby, he⟩ := h
  have HR := Lib.hid hR
  clear hR
  have hm : bs.length = 8 * done.length + n := by rw [← he, List.length_append, byb_length, nb_length]
  have HM := Lib.hid hm
  have hb : 8 * done.length + n ≤ 281474976710656 := by omega
  obtain ⟨A, c, rfl⟩ : ∃ A c, vv = .slice A done.length c := by
    rcases hown.2 with ⟨rfl, h0⟩ | ⟨g, cap, cur, rfl, _⟩
    · exact ⟨none, 0, by rw [h0]⟩
    · exact ⟨_, _, rfl⟩
  clear c1 f0 f1 f2 hown hS he hm hby hacc hlen
  go_enter Tryd.func31, Tryd.ntmps31
  go_wp2
  go_quiet (fail)
  go_wp2
  go_ret
  exact ⟨ret_int (by have := HM.out; omega), _, rfl⟩

set_option maxHeartbeats 1600000 in
set_option maxRecDepth 100000 in
theorem drain_calls (b o : Nat) (S : Nat → Prop) (bs : List Bool) (w : World) (h : WB F w S b o bs) (hlen : bs.length % 8 = 0) :
    Calls Tryd.prog 10 #[.pointer (some ⟨b, o, none⟩)] w fun e w' => ∃ l : List Nat, e = .returned (.string (bstr l)) ∧ (∀ d ∈ l, d < 256) ∧ byb l = bs ∧
      WB F w' S b o [] ∧ Chg (fun i => S i ∨ i = b) w w' := by
  obtain ⟨done, acc, n, ⟨vv, c0, c1, c2, f0, f1, f2, hown, hS, hR⟩, hn, hacc, hby, he⟩ := h
  have HR := Lib.hid hR
  clear hR
  have hm := WB.len_mod hn he
  obtain rfl : n = 0 := by omega
  obtain rfl : acc = 0 := by simp at hacc; omega
  have hcv := own_string (P := Tryd.prog) (src := 25) (dst := 9) hown Tryd.underlying25 Tryd.underlying5 Tryd.underlying9
  have hc0 : (0 : Nat) ≤ 0 := Nat.le_refl 0
  have HO := Lib.hid hown
  have HS := Lib.hid hS
  have HB := Lib.hid hby
  have he2 : byb done = bs := by simpa [nb] using he
  have HE := Lib.hid he2
  clear he he2 hby hacc hn hm
  rcases hown.2 with ⟨rfl, h0⟩ | ⟨g, cap, cur, rfl, hbg, hg, hnc, hcm, hcs, htake⟩
  · have hd : done = [] := List.eq_nil_of_length_eq_zero h0
    have HD := Lib.hid hd
    clear hown hS h0 hd
    go_enter Tryd.func10, Tryd.ntmps10
    go_wp2
    go_returns
    refine ⟨done, rfl, HB.out, HE.out, ⟨[], 0, 0, ?_, by omega, by omega, by simp, by simp [byb, nb]⟩, (Chg.refl _ w).setCell (p := ⟨b, o, none⟩) (Or.inl (Or.inr rfl)) _⟩
    exact WS.store0 c0 c1 c2 f0 f1 f2 (own_cut0 HO.out) (fun k hk => HS.out k hk) HR.out
  · clear hown hS hcs htake hg
    go_enter Tryd.func10, Tryd.ntmps10
    go_wp2
    go_returns
    refine ⟨done, rfl, HB.out, HE.out, ⟨[], 0, 0, ?_, by omega, by omega, by simp, by simp [byb, nb]⟩, (Chg.refl _ w).setCell (p := ⟨b, o, none⟩) (Or.inl (Or.inr rfl)) _⟩
    exact WS.store0 c0 c1 c2 f0 f1 f2 (own_cut0 HO.out) (fun k hk => HS.out k hk) HR.out

theorem u8s_str (s : ByteArray) : Lib.strCells s = u8s (sby s) := by
  unfold Lib.strCells u8s sby
  rw [List.map_map]
  rfl
theorem sby_length (s : ByteArray) : (sby s).length = s.size := by
  simp only [sby, List.length_map, Array.length_toList]
  rfl
theorem sby_lt (s : ByteArray) : ∀ d ∈ sby s, d < 256 := by
  intro d hd
  simp only [sby, List.mem_map] at hd
  obtain ⟨x, _, rfl⟩ := hd
  exact x.toNat_lt

set_option maxHeartbeats 1600000 in
set_option maxRecDepth 100000 in
theorem add_calls (b o : Nat) (S : Nat → Prop) (bs : List Bool) (s : ByteArray) (w : World) (h : WB F w S b o bs) (hlen : bs.length ≤ 281474976710656) (hs : s.size ≤ 35184372088832) :
    Calls Tryd.prog 23 #[.pointer (some ⟨b, o, none⟩), .string s] w fun e w' => e = .returned (.tuple #[]) ∧
      WB F w' (fun i => S i ∨ w.heap.size ≤ i) b o (algn bs ++ byb (sby s)) ∧ Chg (fun i => S i ∨ i = b) w w' := by
  go_enter Tryd.func23, Tryd.ntmps23
  go_wp2_with fail
  refine (align_calls b o S bs w h hlen).mono ?_
  rintro e w1 ⟨rfl, hW, hC⟩
  have ha := algn_len bs
  have hl := algn_le bs
  have HA := Lib.hid ha
  obtain ⟨done, acc, n, ⟨vv, c0, c1, c2, f0, f1, f2, hown, hS, hR⟩, hn, hacc, hby, he⟩ := hW
  have HR := Lib.hid hR
  clear hR
  have hm := WB.len_mod hn he
  obtain rfl : n = 0 := by omega
  have hdl : done.length * 8 ≤ 281474976710663 := by have := congrArg List.length he; simp [byb_length, nb] at this; omega
  have HE := Lib.hid he
  have HB := Lib.hid hby
  have lb := World.block_lt_of_cell? w1 _ c0
  have hvb : vv.ownBlock ≠ some b := fun e => (hS b e).2 rfl
  have HSZ := hC.size
  clear ha he hby hm
  go_wp2_with (at_builtin; refine wpList_append_string _ rfl (.tmp 12) (.tmp 13) 25 9 rfl 5 Tryd.underlying25 Tryd.underlying9 infoU8 vv done.length (u8s done) rfl hown s rfl (by omega) ?_; intro v' w2 hown2 hgrow hat; obtain ⟨A', c', rfl⟩ := own_slice hown2; have hc1 : Chg (fun k => vv.ownBlock = some k) w1 w2 := (Chg.refl _ _).grown hgrow (fun k hk => Or.inl hk); have k0 := hc1.cell c0 hvb; have e0 := (hc1.frozen (p := ⟨b, o, none⟩) lb hvb).trans f0; have k1 := hc1.cell c1 hvb; have e1 := (hc1.frozen (p := ⟨b, o + 1, none⟩) lb hvb).trans f1; have k2 := hc1.cell c2 hvb; have e2 := (hc1.frozen (p := ⟨b, o + 2, none⟩) lb hvb).trans f2)
  go_end0
  refine ⟨rfl, ⟨done ++ sby s, acc, 0, ?_, by omega, hacc, ?_, ?_⟩, ?_⟩
  · refine WS.store0 k0 k1 k2 e0 e1 e2 ?_ ?_ (HR.out.chg hc1 hvb lb)
    · rw [u8s_append, List.length_append, sby_length, ← u8s_str]; exact hown2
    · intro k hk
      rcases hat k hk with h1 | h1
      · exact hS k h1
      · exact ⟨Or.inr (by omega), by omega⟩
  · intro d hd
    rcases List.mem_append.1 hd with h1 | h1
    · exact HB.out d h1
    · exact sby_lt s d h1
  · rw [byb_append, ← HE.out]; simp [nb]
  · refine ((hC.trans hc1 ?_).setCell (p := ⟨b, o, none⟩) (Or.inl (Or.inr rfl)) _)
    intro k hk
    rcases (hS k hk).1 with h1 | h1
    · exact Or.inl (Or.inl h1)
    · exact Or.inr h1
end Go.Proofs.YtakoidkeaccgeaaDoor

/- canon: Word, Write, Lengths. -/
namespace Go.Proofs.YtakoidkeaccgeaaDoor
open Go.RowKit Go.Shelf
variable {F : Nat → Option Value}

theorem gW_set (l : List (Nat × Nat)) (i j : Nat) (x : Nat × Nat) : gW (l.set i x) j = if i = j ∧ j < l.length then x else gW l j := by
  unfold gW
  rw [List.getD_eq_getElem?_getD, List.getElem?_set]
  by_cases e : i = j
  · subst e
    by_cases h : i < l.length <;> simp [h]
  · simp [e, List.getD_eq_getElem?_getD]
theorem gW_out (l : List (Nat × Nat)) (i : Nat) (h : l.length ≤ i) : gW l i = (0, 0) := by
  unfold gW
  rw [List.getD_eq_getElem?_getD, List.getElem?_eq_none h]; rfl
theorem asgIn_ok (l : List Nat) (n : Nat) (hn : n ≤ 15) (st : Nat × List (Nat × Nat) × List Nat) (h : ∀ i, (gW st.2.1 i).1 < 32768 ∧ (gW st.2.1 i).2 ≤ 15) : ∀ k i, (gW (asgIn l n st k).2.1 i).1 < 32768 ∧ (gW (asgIn l n st k).2.1 i).2 ≤ 15
  | 0, i => h i
  | k + 1, i => by
    have ih := asgIn_ok l n hn st h k i
    unfold asgIn
    split
    · dsimp only
      rw [gW_set]
      split
      · have h1 := turn_lt (asgIn l n st k).1 n
        have h2 : (2 : Nat) ^ n ≤ 2 ^ 15 := Nat.pow_le_pow_right (by decide) hn
        exact ⟨by dsimp only; omega, hn⟩
      · exact ih
    · exact ih
theorem asg_ok (l : List Nat) : ∀ n, n ≤ 15 → ∀ i, (gW (asg l n).2.1 i).1 < 32768 ∧ (gW (asg l n).2.1 i).2 ≤ 15
  | 0, _, i => by
    have : gW (asg l 0).2.1 i = (0, 0) := by
      by_cases h : i < l.length
      · simp [asg, gW, List.getD_eq_getElem?_getD, h]
      · exact gW_out _ _ (by simp [asg]; omega)
    rw [this]; simp
  | n + 1, hn, i => asgIn_ok l (n + 1) hn (2 * (asg l n).1, (asg l n).2.1, (asg l n).2.2) (fun j => asg_ok l n (by omega) j) l.length i
/-- The bits of a symbol's word. -/
def cword (l : List Nat) (s : Nat) : List Bool := nb (gW (asg l 15).2.1 s).2 (gW (asg l 15).2.1 s).1

set_option maxHeartbeats 3200000 in
set_option maxRecDepth 100000 in
theorem word_calls (cb : Nat) (S : Nat → Prop) (l : List Nat) (s : Nat) (w : World) (h : CodeM w S cb l) :
    Calls Tryd.prog 63 #[.pointer (some ⟨cb, 0, none⟩), .int .i64 (s : Int)] w fun e w' => e = .returned (.tuple #[.int .u64 ((gW (asg l 15).2.1 s).1 : Int), .int .i64 ((gW (asg l 15).2.1 s).2 : Int)]) ∧ ∃ m, w' = w.drewN m := by
  obtain ⟨vl, vw, vs, hb, hs, h1, h2, h3⟩ := h
  have b1 : w.cell? ⟨cb, 1, none⟩ = some vw := hb.cell 1
  obtain ⟨A, c, rfl, hm, hA⟩ := h2.form
  have hlen : (asg l 15).2.1.length = l.length := by
    have : ∀ n, (asg l n).2.1.length = l.length := fun n => by
      induction n with
      | zero => simp [asg]
      | succ n ih => exact (asgIn_le l (n + 1) _ l.length).2.2.trans ih
    exact this 15
  unfold maxLen at hm
  by_cases hlt : s < l.length
  · obtain ⟨g, off, rfl, hSg, hg, hc0⟩ := h2.at_ A c rfl (s * 2) (by omega)
    have hc1 := h2.cell (s * 2 + 1) (by omega)
    have hw := wcs_at (asg l 15).2.1 s (by omega)
    rw [hw.1] at hc0
    rw [hw.2, ← Nat.add_assoc] at hc1
    have hlt2 : (s : Int) < (l.length : Int) := by omega
    have hlt3 : decide ((l.length : Int) ≤ (s : Int)) = false := by simp; omega
    clear hb hs h1 h2 h3 hw hA hlen
    generalize gW (asg l 15).2.1 s = x at *
    go_enter Tryd.func63, Tryd.ntmps63
    go_wp2
    go_quiet (fail)
    go_wp2
    go_returns
    exact ⟨rfl, _, rfl⟩
  · have hlt3 : decide ((l.length : Int) ≤ (s : Int)) = true := by simp; omega
    have hw := gW_out (asg l 15).2.1 s (by omega)
    have HW := Lib.hid hw
    clear hb hs h1 h2 h3 hA hlen hw
    go_enter Tryd.func63, Tryd.ntmps63
    go_wp2
    go_returns
    exact ⟨by rw [HW.out]; rfl, 0, rfl⟩

set_option maxHeartbeats 3200000 in
set_option maxRecDepth 100000 in
theorem codeWrite_calls (cb b o : Nat) (S T : Nat → Prop) (l : List Nat) (s : Nat) (bs : List Bool) (w : World) (h : CodeM w T cb l) (hW : WB F w S b o bs) (hlen : bs.length ≤ 281474976710656) :
    Calls Tryd.prog 41 #[.pointer (some ⟨cb, 0, none⟩), .pointer (some ⟨b, o, none⟩), .int .i64 (s : Int)] w fun e w' => e = .returned (.tuple #[]) ∧
      WB F w' (fun i => S i ∨ w.heap.size ≤ i) b o (bs ++ cword l s) ∧ Chg (fun i => S i ∨ i = b) w w' := by
  have HW := Lib.hid hW
  have hok := asg_ok l 15 (Nat.le_refl _) s
  have HWD := Lib.hid (fun W => word_calls cb T l s W)
  have H := Lib.hid h
  have HC : Hid (cword l s = nb (gW (asg l 15).2.1 s).2 (gW (asg l 15).2.1 s).1) := rfl
  clear h hW
  generalize gW (asg l 15).2.1 s = x at *
  obtain ⟨xb, xn⟩ := x
  dsimp only at hok
  go_enter Tryd.func41, Tryd.ntmps41
  go_wp2_with fail
  refine (HWD.out _ H.out).mono ?_
  rintro e w' ⟨rfl, m, rfl⟩
  go_wp2_with fail
  refine (writeA_calls b o S bs xb xn _ (HW.out.drewN m) (by omega) (by omega) hlen).mono ?_
  rintro e w2 ⟨rfl, hW2, hC2⟩
  go_wp2
  go_end0
  rw [HC.out]
  exact ⟨rfl, hW2, (Chg.refl _ w).drewN m |>.trans hC2 (fun i hi => Or.inl hi)⟩

set_option maxHeartbeats 3200000 in
set_option maxRecDepth 100000 in
theorem codeLengths_calls (cb : Nat) (S : Nat → Prop) (l : List Nat) (w : World) (h : CodeM w S cb l) (hl : l.length ≤ 17592186044416) :
    Calls Tryd.prog 49 #[.pointer (some ⟨cb, 0, none⟩)] w fun e w' => ∃ v', e = .returned v' ∧ w'.ownsRow w.heap.size 3 1 v' l.length (nis l) ∧ Chg (fun _ => False) w w' := by
  obtain ⟨vl, vw, vs, hb, hs, h1, h2, h3⟩ := h
  have b0 : w.cell? ⟨cb, 0, none⟩ = some vl := hb.cell 0
  have HCL := Lib.hid (cloneI_calls S vl l w h1 hl)
  obtain ⟨A, c, rfl, hm, hA⟩ := h1.form
  clear hb hs h1 h2 h3 hA
  go_enter Tryd.func49, Tryd.ntmps49
  go_wp2_with fail
  refine HCL.out.mono ?_
  rintro e w' ⟨v', rfl, ho, hc⟩
  go_wp2
  go_returns
  exact ⟨v', rfl, ho, hc⟩
end Go.Proofs.YtakoidkeaccgeaaDoor
