/-
 The reference's machine: how the tasks stand, what tells a record, what throws.
-/
import Derived.Test.YtibmnlijoeppaaaXW1
namespace Go.Proofs.Ytibmnlijoeppaaa.X
open Nat renaming reduceEqDiff → zA, reduceAdd → zB, reduceLeDiff → zJ, reduceMul → zK
open Int renaming reduceLT → zC, reduceLE → zD, reduceNeg → zE, reduceBEq → zF, reduceBNe → zG
open AV renaming isTup → zH, cells → zI
set_option linter.unusedSimpArgs false
set_option linter.unusedVariables false

/-! 72: spec.l2M).see -/
def b72_0 : RCode := (.seq (.reg [rI 0 (.bin .lss (.t 54) (.t 53)) 55]) (.seq (.ite (.t 55) .skip (.exit 2)) (.seq (.blk 3 (.seq (.reg [rI 0 (.ias (.t 52) (.t 54) 1) 56, rI 1 (.ld none (.t 56)) 57, rI 2 (.mv (.t 57)) 8]) (.reg [rI 0 (.fa (.t 6) 2) 58, rI 1 (.ld none (.t 58)) 59, rI 2 (.mv (.t 8)) 60, rI 3 (.bsl [.int .i64 0] 1 [(0, .t 60)]) 61, rI 4 (.app 1 8 (.t 59) (.t 61)) 62, rI 5 (.fa (.t 6) 2) 63, ⟨6, .st (.t 63) (.t 62) 1, none, none, []⟩]))) (.reg [rI 0 (.bin .add (.t 54) (.k (.int .i64 1))) 64, rI 1 (.mv (.t 64)) 54]))))
def b72_1 : RCode := (.seq (.reg [rI 0 (.bin .lss (.t 19) (.t 18)) 20]) (.seq (.ite (.t 20) .skip (.exit 0)) (.seq (.blk 1 (.seq (.reg [rI 0 (.ias (.t 17) (.t 19) 1) 21, rI 1 (.ld none (.t 21)) 22, rI 2 (.mv (.t 22)) 5]) (.seq (.reg [rI 26 (.alc [.int .i64 0, .int .i64 0, .slc none 0 0, .int .i64 0, .int .i64 0, .int .i64 0, .int .i64 0]) 6, rI 0 (.mv (.t 5)) 23, rI 1 (.nc (.t 23)) 24, rI 2 (.fa (.t 24) 0) 25, rI 4 (.mv (.t 5)) 27, rI 5 (.nc (.t 27)) 28, rI 6 (.fa (.t 28) 1) 29, rI 8 (.mv (.t 5)) 31, rI 9 (.nc (.t 31)) 32, rI 10 (.fa (.t 32) 3) 33, rI 12 (.mv (.t 5)) 35, rI 13 (.nc (.t 35)) 36, rI 14 (.fa (.t 36) 10) 37, rI 17 (.mv (.t 5)) 40, rI 18 (.nc (.t 40)) 41, rI 19 (.fa (.t 41) 8) 42, rI 21 (.mv (.t 5)) 44, rI 22 (.nc (.t 44)) 45, rI 23 (.fa (.t 45) 9) 46, rI 3 (.ld none (.t 25)) 26, rI 7 (.ld none (.t 29)) 30, rI 11 (.ld none (.t 33)) 34, rI 15 (.ld none (.t 37)) 38, rI 16 (.len (.t 38)) 39, rI 20 (.ld none (.t 42)) 43, rI 24 (.ld none (.t 46)) 47, rI 25 (.bld [.int .i64 0, .int .i64 0, .slc none 0 0, .int .i64 0, .int .i64 0, .int .i64 0, .int .i64 0] [(0, 1, .t 26), (1, 1, .t 30), (3, 1, .t 34), (4, 1, .t 39), (5, 1, .t 43), (6, 1, .t 47)]) 48, ⟨27, .st (.t 6) (.t 48) 7, none, none, []⟩]) (.seq (.seq (.reg [rI 0 (.mv (.t 5)) 49, rI 1 (.nc (.t 49)) 50, rI 2 (.fa (.t 50) 2) 51, rI 3 (.ld none (.t 51)) 52, rI 4 (.len (.t 52)) 53, rI 5 (.mv (.k (.int .i64 0))) 54]) (.blk 2 (.loop b72_0))) (.reg [rI 0 (.fa (.t 3) 2) 65, rI 1 (.ld none (.t 65)) 66, rI 2 (.ld (some 7) (.t 6)) 67, rI 3 (.bsl [.int .i64 0, .int .i64 0, .slc none 0 0, .int .i64 0, .int .i64 0, .int .i64 0, .int .i64 0] 1 [(0, .t 67)]) 68, rI 4 (.app 7 72 (.t 66) (.t 68)) 69, rI 5 (.fa (.t 3) 2) 70, ⟨6, .st (.t 70) (.t 69) 1, none, none, []⟩]))))) (.reg [rI 0 (.bin .add (.t 19) (.k (.int .i64 1))) 71, rI 1 (.mv (.t 71)) 19]))))
def r72 : RFun := ⟨73, [.cell 2 (some 3)], (.seq (.reg [rI 0 (.alc [.bool false, .int .i64 0, .slc none 0 0]) 2]) (.seq (.reg [rI 0 (.mv (.t 0)) 9, rI 1 (.nc (.t 9)) 10, rI 2 (.fa (.t 10) 3) 11, rI 3 (.ld none (.t 11)) 12, rI 4 (.bld [.bool false, .int .i64 0, .slc none 0 0] [(0, 1, .k (.bool true)), (1, 1, .t 12)]) 13, rI 5 (.alc [.bool false, .int .i64 0, .slc none 0 0]) 3, ⟨6, .st (.t 3) (.t 13) 3, none, none, []⟩]) (.seq (.seq (.reg [rI 0 (.mv (.t 0)) 14, rI 1 (.nc (.t 14)) 15, rI 2 (.fa (.t 15) 2) 16, rI 3 (.ld none (.t 16)) 17, rI 4 (.len (.t 17)) 18, rI 5 (.mv (.k (.int .i64 0))) 19]) (.blk 0 (.loop b72_1))) (.seq (.reg [rI 0 (.ld (some 3) (.t 3)) 72, ⟨1, .st (.t 2) (.t 72) 3, none, none, []⟩]) .ret))))⟩
theorem p72 : prog 72 = some r72 := by kernel_rfl

/-! 133: spec.l2M).rec -/
def r133 : RFun := ⟨50, [], (.seq (.seq (.reg [rI 0 (.mv (.t 0)) 8, rI 1 (.nc (.t 8)) 9, rI 2 (.fa (.t 9) 4) 10, rI 3 (.ld none (.t 10)) 11]) (.ite (.t 11) .ret .skip)) (.seq (.seq (.reg [rI 0 (.mv (.t 0)) 12, rI 1 (.nc (.t 12)) 13, rI 2 (.fa (.t 13) 11) 14, rI 4 (.mv (.t 0)) 16, rI 5 (.nc (.t 16)) 17, rI 6 (.fa (.t 17) 5) 18, rI 7 (.fa (.t 18) 1) 19, rI 3 (.ld none (.t 14)) 15, rI 8 (.ld none (.t 19)) 20, rI 9 (.len (.t 20)) 21, rI 10 (.bin .eql (.t 15) (.t 21)) 22]) (.ite (.t 22) (.seq (.reg [rI 0 (.mv (.t 0)) 23, rI 1 (.mv (.t 0)) 24, rI 2 (.call 72 [.t 24]) 25, rI 3 (.nc (.t 23)) 26, rI 4 (.fa (.t 26) 12) 27, ⟨5, .st (.t 27) (.t 25) 3, none, none, []⟩]) (.reg [rI 0 (.mv (.t 0)) 28, rI 1 (.nc (.t 28)) 29, rI 2 (.fa (.t 29) 4) 30, ⟨3, .st (.t 30) (.k (.bool true)) 1, none, none, []⟩])) .skip)) (.reg [rI 0 (.mv (.t 0)) 31, rI 1 (.mv (.t 0)) 32, rI 2 (.nc (.t 32)) 33, rI 3 (.fa (.t 33) 5) 34, rI 4 (.fa (.t 34) 1) 35, rI 6 (.mv (.t 1)) 37, rI 7 (.mv (.t 0)) 38, rI 8 (.nc (.t 38)) 39, rI 9 (.fa (.t 39) 3) 40, rI 11 (.mv (.t 2)) 42, rI 12 (.mv (.t 3)) 43, rI 5 (.ld none (.t 35)) 36, rI 10 (.ld none (.t 40)) 41, rI 13 (.bld [.int .i64 0, .int .i64 0, .int .i64 0, .int .i64 0] [(0, 1, .t 37), (1, 1, .t 41), (2, 1, .t 42), (3, 1, .t 43)]) 44, rI 14 (.bsl [.int .i64 0, .int .i64 0, .int .i64 0, .int .i64 0] 1 [(0, .t 44)]) 45, rI 15 (.app 4 32 (.t 36) (.t 45)) 46, rI 16 (.nc (.t 31)) 47, rI 17 (.fa (.t 47) 5) 48, rI 18 (.fa (.t 48) 1) 49, ⟨19, .st (.t 49) (.t 46) 1, none, none, []⟩])))⟩
theorem p133 : prog 133 = some r133 := by kernel_rfl

/-! 134: spec.l2M).throw -/
def r134 : RFun := ⟨11, [], (.seq (.reg [rI 0 (.mv (.t 0)) 4, rI 1 (.mv (.t 1)) 5, rI 2 (.call 133 [.t 4, .k (.int .i64 3), .k (.int .i64 0), .t 5]) 6]) (.reg [rI 0 (.mv (.t 0)) 7, rI 1 (.mv (.t 1)) 8, rI 2 (.bld [.int .i64 0, .int .i64 0] [(0, 1, .k (.int .i64 2)), (1, 1, .t 8)]) 9, rI 3 (.call 101 [.t 7, .t 9]) 10]))⟩
theorem p134 : prog 134 = some r134 := by kernel_rfl



def dsr (k : Nat) : SR → Option Unit | .stdr j => if j = k then some () else none | _ => none

/-- One more task's view; its registers lie above. -/
theorem pushView {L : Lay SR} {l : List PView} {lo : Nat} {μ0 μ : Mem} (h : Has L (scon L l) lo μ0) (hlo : lo ≤ μ0.next) (hs : Same μ0.next μ0 μ) {c : Cell} {v : PView} (hN : Nums μ0.next μ c v.regs) (hlen : l.length < roomy) :
  ∃ (L3 : Lay SR) (μ4 : Mem), aapp 7 72 (.c (L.sc .std l.length)) (.c (.slc (some (μ.next, 0)) 1 1)) (μ.new [.int .i64 v.body, .int .i64 v.state, c, .int .i64 v.waiter, .int .i64 v.blocks, .int .i64 v.kept, .int .i64 v.begun] 7) =
    some (.c (L3.sc .std (l.length + 1)), μ4) ∧ Has L3 (scon L3 (l ++ [v])) lo μ4 ∧ Same lo μ0 μ4 := by
 obtain ⟨Lu, hLu, hlo2, rfl, hcap⟩ := hN
 have h1 : Has L (scon L l) lo μ := h.same hs (Nat.le_refl _)
 have hg := h1.graft hLu hlo h.lt (dsr l.length) (fun r r' k e1 e2 => by
  cases r <;> simp only [dsr, reduceCtorEq] at e1
  cases r' <;> simp only [dsr, reduceCtorEq] at e2
  split at e1
  ·split at e2
   ·rename_i a b; rw [a, b]
   ·cases e2
  ·cases e1)
 generalize hLd : L.graft Lu (dsr l.length) = L0 at hg
 have ag0 : ∀ y, y ≠ .stdr l.length → L0.id y = L.id y ∧ L0.on y = L.on y ∧ L0.cap y = L.cap y := by
  intro y hy
  subst hLd
  have : dsr l.length y = none := by
   cases y <;> simp only [dsr]
   rename_i k; rw [if_neg (fun e => hy (by rw [e]))]
  simp only [Lay.graft, this, and_self]
 have sc0 : L0.sc (.stdr l.length) v.regs.length = Lu.sc () v.regs.length := by
  subst hLd; simp only [Lay.sc, Lay.graft, dsr, if_true]
 unfold roomy at hlen
 have hcat : (cat (svrow L) 0 l).length = l.length * 7 := cat_length (svrow_len L)
 obtain ⟨L3, μ4, eb, hL3, hs3, hoth3, _, hon3, _⟩ := (hg.tmp (cs := [.int .i64 v.body, .int .i64 v.state, Lu.sc () v.regs.length, .int .i64 v.waiter, .int .i64 v.blocks, .int .i64 v.kept, .int .i64 v.begun]) (sz := 7)).app
  (Nat.le_succ_of_le (Nat.le_trans hlo hlo2)) (r := .std) (bytes := 72) (n := l.length) (k := 1) (c := 1) (b := some (μ.next, 0)) (new := [.int .i64 v.body, .int .i64 v.state, Lu.sc () v.regs.length, .int .i64 v.waiter, .int .i64 v.blocks, .int .i64 v.kept, .int .i64 v.begun])
  rfl (by omega) hcat (SlcVal.fresh rfl) ⟨by unfold most; omega, by unfold most; omega⟩ (.inl (by omega))
 have hstd : L0.sc .std l.length = L.sc .std l.length := sc_eq (ag0 .std (by intro hh; cases hh)).1 (ag0 .std (by intro hh; cases hh)).2.1 (ag0 .std (by intro hh; cases hh)).2.2 _
 rw [hstd] at eb
 have hscr : ∀ i n, i ≠ l.length → L3.sc (.stdr i) n = L.sc (.stdr i) n := by
  intro i n hi
  have a3 := hoth3 (.stdr i) (by intro hh; cases hh)
  have a2 := ag0 (.stdr i) (by intro hh; injection hh with hh; exact hi hh)
  exact sc_eq (a3.1.trans a2.1) (a3.2.1.trans a2.2.1) (a3.2.2.trans a2.2.2) n
 have hscn : ∀ n, L3.sc (.stdr l.length) n = L0.sc (.stdr l.length) n := fun n =>
  sc_eq (hoth3 _ (by intro hh; cases hh)).1 (hoth3 _ (by intro hh; cases hh)).2.1 (hoth3 _ (by intro hh; cases hh)).2.2 n
 refine ⟨L3, μ4, eb, hL3.weaken fun y z hz => ?_, (hs.mono hlo).trans ((Same.tmp (Nat.le_trans hlo hlo2)).trans hs3)⟩
 cases y with
 | std =>
  simp only [Con.upd]
  rw [if_pos trivial]
  simp only [scon, cat_append, Nat.zero_add] at hz
  rw [← hz]
  congr 2
  have e1 : cat (svrow L3) 0 l = cat (svrow L) 0 l := cat_congr fun j g hj => by
   have hlt := (List.getElem?_eq_some_iff.1 hj).1
   simp only [svrow]; rw [hscr (0 + j) _ (by omega)]
  rw [e1]
  simp only [cat, svrow, hscn, sc0, List.append_nil]
 | stdr i =>
  simp only [Con.upd]
  rw [if_neg (by intro hh; cases hh)]
  simp only [scon] at hz
  by_cases hi : i = l.length
  ·subst hi
   simp only [dsr, if_true]
   simpa using hz
  ·simp only [dsr, if_neg hi]
   simp only [scon]
   by_cases hlt : i < l.length
   ·rw [List.getElem?_append_left hlt] at hz; exact hz
   ·rw [List.getElem?_eq_none (by simp; omega)] at hz; cases hz

section
variable {E : IEnv} {L : Lay IR} {S S' : PM} {μ0 μ μ' : Mem}

def baseS (μ0 : Mem) (run : Int) (c : Cell) : Mem := (μ0.new [.bool false, .int .i64 0, .slc none 0 0] 0).new [.bool true, .int .i64 run, c] 0
theorem baseS_same {run : Int} {c : Cell} : Same μ0.next μ0 (baseS μ0 run c) := (Same.tmp (Nat.le_refl _)).new (Nat.le_succ _)

def vcells (v : PView) (c : Cell) : List Cell := [.int .i64 v.body, .int .i64 v.state, c, .int .i64 v.waiter, .int .i64 v.blocks, .int .i64 v.kept, .int .i64 v.begun]

/-- The inner loop: a task's registers, one by one. -/
theorem regLoop {v : PView} (h0 : Rep E L S μ0) {i : Nat} {t : PTk} (ht : S.tasks[i]? = some t) {b : Nat} (hb : μ0.next ≤ b) {s : List It} {Q : Fr → Mem → Prop} {μ1 : Mem} (h1 : Same μ0.next μ0 μ1) (hb1 : μ1.next = b) :
  ∀ (k j : Nat) (fr : Fr) (μ : Mem) (c : Cell), j + k = 4 → Same (b + 1) (μ1.new (vcells v c) 0) μ → Nums (b + 1) μ c (t.regs.take j) →
  fr 6 = pt b 0 → fr 52 = .c (L.sc (.regs i) 4) → fr 53 = .c (.int .i64 4) → fr 54 = .c (.int .i64 j) →
  (∀ fr' μ' c', Same (b + 1) (μ1.new (vcells v c') 0) μ' → Nums (b + 1) μ' c' t.regs → fr' 6 = pt b 0 → fr' 2 = fr 2 → fr' 3 = fr 3 → fr' 17 = fr 17 → fr' 18 = fr 18 → fr' 19 = fr 19 → R s fr' μ' Q) →
  R (.c (.loop b72_0) :: .blk 2 :: s) fr μ Q := by
 have hr4 := h0.regs t (List.mem_of_getElem? ht)
 intro k
 induction k with
 | zero =>
  intro j fr μ c hk hs hN f6 f52 f53 f54 hend
  have hj : j = t.regs.length := by omega
  subst hj
  rw [List.take_length] at hN
  rw [R_loop]
  simp only [rI, b72_0]
  simp only [w1, w2, ↓reduceIte, f53, f54]
  rw [decide_eq_false (by omega)]
  simp only [w1]
  rw [R_exit rfl]
  exact hend _ _ c hs hN (by simp only [w1, ↓reduceIte, zA, f6]) (by simp only [w1, ↓reduceIte, zA]) (by simp only [w1, ↓reduceIte, zA]) (by simp only [w1, ↓reduceIte, zA]) (by simp only [w1, ↓reduceIte, zA]) (by simp only [w1, ↓reduceIte, zA])
 | succ k ih =>
  intro j fr μ c hk hs hN f6 f52 f53 f54 hend
  have hj : j < 4 := by omega
  have hsm : Same μ0.next μ0 μ := h1.trans ((Same.tmp (cs := vcells v c) (sz := 0) (by rw [hb1]; exact hb)).trans (hs.mono (by omega)))
  have h : Rep E L S μ := h0.next hsm
  have hget : t.regs[j]? = some t.regs[j] := List.getElem?_eq_getElem (by omega)
  obtain ⟨e1, e2⟩ := h.ldreg ht (a := (j : Int)) (v := t.regs[j]) (by unfold PTk.reg; rw [if_pos (by omega), Int.toNat_natCast]; exact hget)
  simp only [Int.toNat_natCast] at e1 e2
  have hcell : μ.ld none b 2 = some (.c c) := by
   rw [hs.ld (by omega), Mem.new_ld, if_pos hb1.symm]; rfl
  have hlt : (t.regs.take j).length = j := by rw [List.length_take]; omega
  obtain ⟨c', μ2, ea, hN2, hs2⟩ := hN.app [t.regs[j]] (by rw [hlt]; unfold roomy; simp; omega)
  obtain ⟨μ5, es, hs5, hn5, ho5⟩ := (hs.trans hs2).st (i := b) (o := 2) (x := [c']) (μ1 := μ1.new (vcells v c') 0) (by omega) (by rw [Mem.new_st, if_pos hb1.symm]; rfl)
  have hN5 : Nums (b + 1) μ5 c' (t.regs.take (j + 1)) := by
   obtain ⟨Lu, u1, u2, u3, u4⟩ := hN2
   have htk : t.regs.take j ++ [t.regs[j]] = t.regs.take (j + 1) := (List.take_succ_eq_append_getElem (by omega)).symm
   rw [htk] at u1 u3 u4
   exact ⟨Lu, u1.frame (by rw [hn5]; exact Nat.le_refl _) fun r hr => ho5 _ (by have := u1.ge r hr; omega), by rw [hn5]; exact u2, u3, u4⟩
  simp only [cat, irow, List.append_nil] at ea
  rw [R_loop]
  simp only [rI, b72_0]
  simp only [w1, w2, ↓reduceIte, f53, f54]
  rw [decide_eq_true (by omega)]
  simp only [w1, w2, zH, zI, ↓reduceIte, zA, m2, fillc, wr, rep, zJ, zK, List.append_nil, f52, f54, f6, e1, e2, hcell]
  refine (OptK_of ea ?_)
  simp only [w1, w2, es]
  rw [small (by omega), R_lp]
  refine ih (j + 1) _ μ5 c' (by omega) hs5 hN5 ?_ ?_ ?_ ?_ ?_
  ·simp only [w1, ↓reduceIte, zA, f6]
  ·simp only [w1, ↓reduceIte, zA, f52]
  ·simp only [w1, ↓reduceIte, zA, f53]
  ·simp only [w1, ↓reduceIte]; rfl
  ·intro fr' μ' c'' a1 a2 a3 a4 a5 a6 a7 a8
   exact hend fr' μ' c'' a1 a2 a3 (a4.trans (by simp only [w1, ↓reduceIte, zA])) (a5.trans (by simp only [w1, ↓reduceIte, zA])) (a6.trans (by simp only [w1, ↓reduceIte, zA])) (a7.trans (by simp only [w1, ↓reduceIte, zA])) (a8.trans (by simp only [w1, ↓reduceIte, zA]))

theorem new_st0 {cs x : List Cell} {e : Nat} (h : x.length = cs.length) : (μ.new cs e).st μ.next 0 x = some (μ.new x e) := by
 rw [Mem.new_st, if_pos rfl, stl, if_pos (by omega)]
 congr 2
 rw [wr_all h]

theorem standLoop (h0 : Rep E L S μ0) (hroom : S.tasks.length < roomy) :
  ∀ (k i : Nat) (fr : Fr) (μ : Mem) (Ls : Lay SR) (s : List It) (Q : Fr → Mem → Prop), i + k = S.tasks.length → Same (μ0.next + 2) (baseS μ0 S.run (Ls.sc .std i)) μ →
  Has Ls (scon Ls ((S.tasks.take i).map PTk.view)) (μ0.next + 2) μ → fr 2 = pt μ0.next 0 → fr 3 = pt (μ0.next + 1) 0 → fr 17 = .c (L.sc .tasks S.tasks.length) → fr 18 = .c (.int .i64 S.tasks.length) → fr 19 = .c (.int .i64 i) →
  (∀ fr' μ' Ls', Same (μ0.next + 2) (baseS μ0 S.run (Ls'.sc .std S.tasks.length)) μ' → Has Ls' (scon Ls' (S.tasks.map PTk.view)) (μ0.next + 2) μ' → fr' 2 = pt μ0.next 0 → fr' 3 = pt (μ0.next + 1) 0 → R s fr' μ' Q) →
  R (.c (.loop b72_1) :: .blk 0 :: s) fr μ Q := by
 intro k
 induction k with
 | zero =>
  intro i fr μ Ls s Q hk hs hL h2 h3 h14 h15 h16 hend
  have hi : i = S.tasks.length := by omega
  subst hi
  rw [List.take_length] at hL
  rw [R_loop]
  simp only [rI, b72_1]
  simp only [w1, w2, ↓reduceIte, h15, h16]
  rw [decide_eq_false (by omega)]
  simp only [w1]
  rw [R_exit rfl]
  refine hend _ _ Ls hs hL ?_ ?_
  ·simp only [w1, ↓reduceIte, zA, h2]
  ·simp only [w1, ↓reduceIte, zA, h3]
 | succ k ih =>
  intro i fr μ Ls s Q hk hs hL h2 h3 h14 h15 h16 hend
  have hlt : i < S.tasks.length := by omega
  have hget : S.tasks[i]? = some S.tasks[i] := List.getElem?_eq_getElem hlt
  have hnx : μ0.next + 2 ≤ μ.next := hs.2
  have hsm : Same μ0.next μ0 μ := baseS_same.trans (hs.mono (by omega))
  have h : Rep E L S μ := h0.next hsm
  have htf := h.tfacts hget
  obtain ⟨tb, to, e1, e2⟩ := h.tasksAt hget
  have hreg := h.regs _ (List.mem_of_getElem? hget)
  obtain ⟨fa, fc, hfs⟩ := h.fsc hget
  rw [hfs] at htf
  obtain ⟨rb, hrs⟩ : ∃ a c, L.sc (.regs i) 4 = .slc a 4 c := ⟨_, _, Lay.sc_slc (h.regsc hget).2.2⟩
  have hne : ¬ L.id (.task i) = μ.next := by
   have := h.has.lt (.task i) (h.has.on (r := .task i) (sz := 0) (cs := tcells L i S.tasks[i]) (by simp only [icon, hget, Option.map_some]) (.inl rfl))
   omega
  have hlv : ((S.tasks.take i).map PTk.view).length = i := by rw [List.length_map, List.length_take]; omega
  have es : (μ.new [.int .i64 0, .int .i64 0, .slc none 0 0, .int .i64 0, .int .i64 0, .int .i64 0, .int .i64 0] 0).st μ.next 0 (vcells S.tasks[i].view (.slc none 0 0)) = some (μ.new (vcells S.tasks[i].view (.slc none 0 0)) 0) := new_st0 rfl
  simp only [vcells, PTk.view] at es
  rw [R_loop]
  simp only [rI, b72_1]
  simp only [w1, w2, ↓reduceIte, h15, h16]
  rw [decide_eq_true (by omega)]
  obtain ⟨cr, hrs⟩ := hrs
  simp only [w1, w2, zH, zI, ↓reduceIte, zA, zB, m2, fillc, wr, zJ, zB, m1, m2, stl, wr, zJ, hne, h14, h16, e1, e2, htf, hrs]
  refine regLoop (v := S.tasks[i].view) (b := μ.next) (μ1 := μ) (μ0 := μ0) h0 hget (by omega) hsm rfl 4 0 _ _ (.slc none 0 0) rfl Same.refl (Nums.nil (Nat.le_refl _)) ?_ ?_ ?_ ?_ ?_
  ·simp only [w1, ↓reduceIte, zA]
  ·simp only [w1, ↓reduceIte, zA, hrs]
  ·simp only [w1, ↓reduceIte, zA]; rfl
  ·simp only [w1, ↓reduceIte]; rfl
  intro fr' μ3 c' hs3 hN3 g6 g2 g3 g17 g18 g19
  simp only [w1, ↓reduceIte, zA, h2, h3, h14, h15, h16] at g2 g3 g17 g18 g19
  have hL1 : Has Ls (scon Ls ((S.tasks.take i).map PTk.view)) (μ0.next + 2) (μ.new (vcells S.tasks[i].view c') 0) := hL.tmp
  obtain ⟨L3, μ4, eb, hL3, hs4⟩ := pushView hL1 (by simp only [Mem.new_next]; omega) (v := S.tasks[i].view) (μ := μ3) (c := c') (by simpa only [Mem.new_next] using hs3) (by simpa only [Mem.new_next, PTk.view] using hN3) (by rw [hlv]; omega)
  rw [hlv] at eb
  have hs04 : Same (μ0.next + 2) (baseS μ0 S.run (Ls.sc .std i)) μ4 := (hs.trans (Same.tmp hnx)).trans hs4
  have hcell : μ3.ld none (μ0.next + 1) 2 = some (.c (Ls.sc .std i)) := by
   rw [hs3.ld (by omega), Mem.new_ld, if_neg (by omega), hs.ld (by omega), baseS]
   simp only [m1, m2, w2, ↓reduceIte]
  have hview : μ3.ld (some 7) μ.next 0 = some (.agg (vcells S.tasks[i].view c')) := by
   rw [hs3.ld (by omega), Mem.new_ld, if_pos rfl]; rfl
  obtain ⟨μ5, e5, hs5, hn5, ho5⟩ := hs04.st (i := μ0.next + 1) (o := 2) (x := [L3.sc .std (i + 1)]) (μ1 := baseS μ0 S.run (L3.sc .std (i + 1))) (by omega) (by simp only [baseS, m1, m2, stl, wr, zJ, w1, w2, ↓reduceIte, zB])
  simp only [vcells] at hview
  simp only [w1, w2, zH, zI, ↓reduceIte, zA, zB, m2, fillc, wr, rep, zJ, zB, zK, List.append_nil, g3, g6, hcell, hview]
  refine (OptK_of eb ?_)
  simp only [w1, w2, e5, g19]
  rw [small (by unfold roomy at hroom; omega), R_lp]
  have htake : (S.tasks.take (i + 1)).map PTk.view = (S.tasks.take i).map PTk.view ++ [S.tasks[i].view] := by
   rw [List.take_succ_eq_append_getElem hlt, List.map_append]; rfl
  refine ih (i + 1) _ μ5 L3 s Q (by omega) hs5 ?_ ?_ ?_ ?_ ?_ ?_ hend
  ·rw [htake]
   refine hL3.frame (by rw [hn5]; exact Nat.le_refl _) fun r hr => ho5 _ ?_
   have := hL3.ge r hr; omega
  ·simp only [w1, ↓reduceIte, zA, g2]
  ·simp only [w1, ↓reduceIte, zA, g3]
  ·simp only [w1, ↓reduceIte, zA, g17]
  ·simp only [w1, ↓reduceIte, zA, g18]
  ·simp only [w1, ↓reduceIte]; rfl

theorem see_ok (h : Rep E L S μ0) (hroom : S.tasks.length < roomy) :
  Ret 72 [pt E.m 0] μ0 fun v μ' => ∃ Ls : Lay SR, v = .agg [.bool true, .int .i64 S.run, Ls.sc .std S.tasks.length] ∧ Has Ls (scon Ls (S.tasks.map PTk.view)) μ0.next μ' ∧ Same μ0.next μ0 μ' := by
 have hm := h.mfacts
 obtain ⟨ta, tc, hts⟩ := h.tsc
 refine Ret_of p72 (by simp [r72]) ?_
 simp only [rI, r72, frOf_1]
 have hm2 := (h.tmp (cs := [.bool false, .int .i64 0, .slc none 0 0]) (sz := 0)).mfacts
 simp only [w1, w2, zH, zI, ↓reduceIte, zA, hm2]
 have hE : E.m < μ0.next := by rw [← h.m]; exact h.has.lt _ (h.has.on (r := .mach) rfl (.inl rfl))
 have hne0 : ¬ E.m = μ0.next := by omega
 have hne1 : ¬ E.m = μ0.next + 1 := by omega
 simp only [w1, w2, zH, zI, ↓reduceIte, zB, m1, m2, stl, wr, aRet, aRes, aRes1, zJ, m2, fillc, wr, zJ, zB, hne0, hne1, hm, hts]
 have Ls0 : Has (⟨fun _ => 0, fun _ => false, fun _ => 0⟩ : Lay SR) (scon (⟨fun _ => 0, fun _ => false, fun _ => 0⟩ : Lay SR) ((S.tasks.take 0).map PTk.view)) (μ0.next + 2) (baseS μ0 S.run (.slc none 0 0)) := by
  refine (Has.start (fun _ => rfl)).weaken' fun y sz cs hy => .inr ?_
  cases y with
  | std => simp only [scon, List.take_zero, List.map_nil, cat, Option.some.injEq, Prod.mk.injEq] at hy; exact ⟨rfl, by omega, hy.2.symm⟩
  | stdr i => simp [scon] at hy
 refine standLoop h hroom S.tasks.length 0 _ _ _ _ _ (by omega) Same.refl Ls0 ?_ ?_ ?_ ?_ ?_ ?_
 ·simp only [w1, ↓reduceIte, zA]
 ·simp only [w1, ↓reduceIte, zA]
 ·simp only [w1, ↓reduceIte, zA, hts]
 ·simp only [w1, ↓reduceIte, zA]
 ·simp only [w1, ↓reduceIte]; rfl
 ·intro fr' μ' Ls' hs hL g2 g3
  have l3 : μ'.ld (some 3) (μ0.next + 1) 0 = some (.agg [.bool true, .int .i64 S.run, Ls'.sc .std S.tasks.length]) := by
   rw [hs.ld (by omega), baseS]
   simp only [m1, m2, rd, w1, w2, ↓reduceIte, zB]
  obtain ⟨μ5, es, hs5, hn5, ho5⟩ := hs.st (i := μ0.next) (o := 0) (x := [.bool true, .int .i64 S.run, Ls'.sc .std S.tasks.length])
   (μ1 := (μ0.new [.bool true, .int .i64 S.run, Ls'.sc .std S.tasks.length] 0).new [.bool true, .int .i64 S.run, Ls'.sc .std S.tasks.length] 0) (by omega) (by simp only [baseS, m1, m2, stl, wr, zJ, w1, w2, ↓reduceIte, zB])
  have l2 : μ5.ld (some 3) μ0.next 0 = some (.agg [.bool true, .int .i64 S.run, Ls'.sc .std S.tasks.length]) := by
   rw [hs5.ld (by omega)]
   simp only [m1, m2, rd, w1, w2, ↓reduceIte, zB]
  simp only [w1, w2, zH, zI, ↓reduceIte, zA, zB, g2, g3, l3, es, l2]
  refine ⟨_, rfl, Ls', rfl, ?_, ?_⟩
  ·have h2 : Has Ls' (scon Ls' (S.tasks.map PTk.view)) (μ0.next + 2) μ5 := hL.frame (by rw [hn5]; exact Nat.le_refl _) fun r hr => ho5 _ (by have := hL.ge r hr; omega)
   exact ⟨h2.inj, h2.lt, fun r hr => by have := h2.ge r hr; omega, h2.obj⟩
  ·exact ((Same.tmp (Nat.le_refl _)).new (Nat.le_succ _)).trans (hs5.mono (by omega))

theorem tell_ok' (h : Rep E L S μ) {kind how num : Int} (ht : S.tell kind how num = some S') :
  Ret 133 [pt E.m 0, .c (.int .i64 kind), .c (.int .i64 how), .c (.int .i64 num)] μ fun v μ' => AfterT E L S μ S' μ' := by
 unfold PM.tell at ht
 refine Ret_of p133 (by simp [r133]) ?_
 simp only [rI, r133, frOf_4]
 have hm := h.mfacts
 obtain ⟨ra, rc, hrs⟩ : ∃ a c, L.sc .recs S.recs.length = .slc a S.recs.length c := h.has.scf (r := .recs) (sz := 4) (cs := cat recrow 0 S.recs) rfl (by rw [cat_length recrow_len]) (by omega)
 by_cases ho : S.over = true
 ·rw [if_pos ho] at ht
  simp only [Option.some.injEq] at ht
  subst ht
  simp only [w1, w2, ↓reduceIte, hm, ho, aRet, aRes, toCells]
  exact ⟨_, rfl, L, h, Stay.refl, Keep.refl, fun _ _ => rfl⟩
 ·rw [if_neg ho] at ht
  simp only [Bool.not_eq_true] at ho
  split at ht
  ·rename_i hl
   simp only [Option.some.injEq] at ht
   subst ht
   by_cases hst : S.stop = S.recs.length
   ·rw [if_pos hst]
    rw [hrs] at hm
    simp only [w1, w2, ↓reduceIte, zA, zB, hm, ho, beq_tt hst]
    refine R_calls (l := [pt E.m 0]) (by simp only [w1, w2, ↓reduceIte]) (see_ok h hl.2) ?_
    rintro v μ1 ⟨Ls, rfl, hL, hs⟩
    obtain ⟨L1, μ2, e1, h1, s1, k1, g1⟩ := h.setStand hs hL true S.run
    obtain ⟨μ3, e3, h3, k3⟩ := h1.setMach (S' := { S with stand := S.see, over := true }) (o := 4) (new := [.bool true]) rfl (by simp) rfl rfl rfl rfl rfl
    have hm3 := h3.mfacts
    obtain ⟨L2, μ4, μ5, e4, e5, h5, s5, k5, g5⟩ := h3.pushRec ⟨kind, S.run, how, num⟩ hl.1
    rw [List.length_map] at e1
    simp only [recrow] at e4
    obtain ⟨ra1, rc1, hrs1⟩ : ∃ a c, L1.sc .recs S.recs.length = .slc a S.recs.length c := h1.has.scf (r := .recs) (sz := 4) (cs := cat recrow 0 S.recs) rfl (by rw [cat_length recrow_len]) (by omega)
    simp only [hrs1] at hm3 e4
    simp only [w1, w2, zH, zI, ↓reduceIte, zA, zB, e1, e3, hm3, m2, fillc, wr, rep, zJ, zB, zK, List.append_nil, e4, e5, aRet, aRes, toCells]
    exact ⟨_, rfl, L2, h5, (s1.trans s5 (Nat.le_refl _)), k1.trans (k3.trans k5), fun i n => (g5 i n).trans (g1 i n)⟩
   ·rw [if_neg hst]
    obtain ⟨L2, μ4, μ5, e4, e5, h5, s5, k5, g5⟩ := h.pushRec ⟨kind, S.run, how, num⟩ hl.1
    simp only [recrow] at e4
    rw [hrs] at hm e4
    simp only [w1, w2, zH, zI, ↓reduceIte, zA, zB, hm, ho, beq_ff hst, m2, fillc, wr, rep, zJ, zB, zK, List.append_nil, e4, e5, aRet, aRes, toCells]
    refine ⟨_, rfl, L2, ?_, s5, k5, g5⟩
    rw [ho] at h5; exact h5
  ·cases ht

theorem tell_ok (h : Rep E L S μ) {kind how num : Int} (ht : S.tell kind how num = some S') :
  Ret 133 [pt E.m 0, .c (.int .i64 kind), .c (.int .i64 how), .c (.int .i64 num)] μ fun v μ' => After E L S μ S' μ' :=
 (tell_ok' h ht).mono fun v μ' ⟨L', h1, h2, h3, _⟩ => ⟨L', h1, h2, h3⟩

theorem tell_keeps {kind how num : Int} (ht : S.tell kind how num = some S') : S'.rings = S.rings ∧ S'.tasks = S.tasks ∧ S'.run = S.run := by
 unfold PM.tell at ht
 split at ht
 ·simp only [Option.some.injEq] at ht; subst ht; exact ⟨rfl, rfl, rfl⟩
 ·split at ht
  ·simp only [Option.some.injEq] at ht; subst ht
   dsimp only
   split <;> exact ⟨rfl, rfl, rfl⟩
  ·cases ht

theorem throw_ok (h : Rep E L S μ) {num : Int} (hs : S.throw num = some S') : Ret 134 [pt E.m 0, .c (.int .i64 num)] μ fun v μ' => After E L S μ S' μ' := by
 unfold PM.throw at hs
 obtain ⟨S1, ht, hs⟩ := Option.bind_eq_some_iff.1 hs
 refine Ret_of p134 (by simp [r134]) ?_
 simp only [rI, r134, frOf_2]
 simp only [w1, w2, ↓reduceIte, zA]
 refine R_calls (l := [pt E.m 0, .c (.int .i64 3), .c (.int .i64 0), .c (.int .i64 num)]) (by simp only [w1, w2, ↓reduceIte, zA]) (tell_ok h ht) ?_
 rintro v μ1 ⟨L1, h1, s1, k1⟩
 simp only [w1, w2, ↓reduceIte, zA]
 refine R_calls (l := [pt E.m 0, .agg [.int .i64 2, .int .i64 num]]) (by simp only [w1, w2, zI, ↓reduceIte, zA, m2, wr]) (mark_ok h1 hs) ?_
 rintro v μ2 ⟨h2, k2⟩
 simp only [w1, w2, zI, ↓reduceIte, aRet, aRes, toCells]
 exact ⟨_, rfl, L1, h2, s1, k1.trans k2⟩
end
end Go.Proofs.Ytibmnlijoeppaaa.X
