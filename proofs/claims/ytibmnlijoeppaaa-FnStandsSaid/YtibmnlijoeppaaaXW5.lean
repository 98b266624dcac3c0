/-
 The reference's machine: one step of a body.
-/
import Derived.Test.YtibmnlijoeppaaaXW4
namespace Go.Proofs.Ytibmnlijoeppaaa.X
open Nat renaming reduceEqDiff → zA, reduceAdd → zB, reduceLeDiff → zJ, reduceMul → zK
open Int renaming reduceLT → zC, reduceLE → zD, reduceNeg → zE, reduceBEq → zF, reduceBNe → zG
open AV renaming isTup → zH, cells → zI
set_option linter.unusedSimpArgs false
set_option linter.unusedVariables false

/-! 102: spec.l2M).step -/
def t102 : RCode := (.seq (.reg [rI 0 (.fa (.t 3) 0) 39, rI 1 (.ld none (.t 39)) 40]) (.blk 0 (.seq (.reg [rI 0 (.bin .eql (.t 40) (.k (.int .i64 1))) 54, rI 1 (.mv (.t 54)) 53]) (.ite (.t 53) (.reg [rI 0 (.mv (.t 4)) 55, rI 1 (.fa (.t 3) 1) 56, rI 2 (.ld none (.t 56)) 57, rI 3 (.fa (.t 3) 3) 58, rI 4 (.ld none (.t 58)) 59, rI 5 (.ias (.t 55) (.t 57) 1) 60, ⟨6, .st (.t 60) (.t 59) 1, none, none, []⟩]) (.seq (.reg [rI 0 (.bin .eql (.t 40) (.k (.int .i64 2))) 62, rI 1 (.mv (.t 62)) 61]) (.ite (.t 61) (.reg [rI 0 (.mv (.t 4)) 63, rI 1 (.fa (.t 3) 1) 64, rI 3 (.mv (.t 4)) 66, rI 4 (.fa (.t 3) 2) 67, rI 8 (.fa (.t 3) 3) 71, rI 2 (.ld none (.t 64)) 65, rI 5 (.ld none (.t 67)) 68, rI 6 (.ias (.t 66) (.t 68) 1) 69, rI 7 (.ld none (.t 69)) 70, rI 9 (.ld none (.t 71)) 72, rI 10 (.bin .add (.t 70) (.t 72)) 73, rI 11 (.ias (.t 63) (.t 65) 1) 74, ⟨12, .st (.t 74) (.t 73) 1, none, none, []⟩]) (.seq (.reg [rI 0 (.bin .eql (.t 40) (.k (.int .i64 3))) 76, rI 1 (.mv (.t 76)) 75]) (.ite (.t 75) (.reg [rI 0 (.mv (.t 0)) 77, rI 1 (.mv (.t 4)) 78, rI 2 (.fa (.t 3) 1) 79, rI 3 (.ld none (.t 79)) 80, rI 4 (.ias (.t 78) (.t 80) 1) 81, rI 5 (.ld none (.t 81)) 82, rI 6 (.call 133 [.t 77, .k (.int .i64 1), .k (.int .i64 0), .t 82]) 83]) (.seq (.reg [rI 0 (.bin .eql (.t 40) (.k (.int .i64 4))) 85, rI 1 (.mv (.t 85)) 84]) (.ite (.t 84) (.seq (.seq (.reg [rI 0 (.mv (.t 0)) 86, rI 1 (.nc (.t 86)) 87, rI 2 (.fa (.t 87) 2) 88, rI 3 (.ld none (.t 88)) 89, rI 4 (.len (.t 89)) 90, rI 5 (.bin .eql (.t 90) (.k (.int .i64 60))) 91]) (.ite (.t 91) (.seq (.reg [rI 0 (.mv (.t 0)) 92, rI 1 (.call 134 [.t 92, .k (.int .i64 (-10))]) 93]) .ret) .skip)) (.seq (.reg [rI 0 (.mv (.t 0)) 94, rI 1 (.mv (.t 0)) 95, rI 2 (.nc (.t 95)) 96, rI 3 (.fa (.t 96) 2) 97, rI 5 (.fa (.t 3) 2) 99, rI 4 (.ld none (.t 97)) 98, rI 6 (.ld none (.t 99)) 100, rI 7 (.mks [.int .i64 0] 8 (.k (.int .i64 4)) (.k (.int .i64 4))) 101, rI 8 (.bld [.int .i64 0, .int .i64 0, .slc none 0 0, .int .i64 0, .int .i64 0, .bool false, .bool false, .int .i64 0, .int .i64 0, .int .i64 0, .slc none 0 0] [(0, 1, .t 100), (2, 1, .t 101), (3, 1, .k (.int .i64 (-1)))]) 102, rI 9 (.box (.t 102) 11) 103, rI 10 (.bsl [.ptr none] 1 [(0, .t 103)]) 104, rI 11 (.app 1 8 (.t 98) (.t 104)) 105, rI 12 (.nc (.t 94)) 106, rI 13 (.fa (.t 106) 2) 107, ⟨14, .st (.t 107) (.t 105) 1, none, none, []⟩]) (.reg [rI 0 (.mv (.t 4)) 108, rI 1 (.fa (.t 3) 1) 109, rI 3 (.mv (.t 0)) 111, rI 4 (.nc (.t 111)) 112, rI 5 (.fa (.t 112) 2) 113, rI 2 (.ld none (.t 109)) 110, rI 6 (.ld none (.t 113)) 114, rI 7 (.len (.t 114)) 115, rI 8 (.bin .sub (.t 115) (.k (.int .i64 1))) 116, rI 9 (.ias (.t 108) (.t 110) 1) 117, ⟨10, .st (.t 117) (.t 116) 1, none, none, []⟩]))) (.seq (.reg [rI 0 (.bin .eql (.t 40) (.k (.int .i64 5))) 119, rI 1 (.mv (.t 119)) 118]) (.ite (.t 118) (.reg [rI 0 (.mv (.t 0)) 120, rI 1 (.ld (some 5) (.t 3)) 121, rI 2 (.call 135 [.t 120, .t 121]) 122]) (.seq (.reg [rI 0 (.bin .eql (.t 40) (.k (.int .i64 6))) 124, rI 1 (.mv (.t 124)) 123]) (.ite (.t 123) (.reg [rI 0 (.mv (.t 0)) 125, rI 1 (.ld (some 5) (.t 3)) 126, rI 2 (.call 136 [.t 125, .t 126]) 127]) (.seq (.reg [rI 0 (.bin .eql (.t 40) (.k (.int .i64 7))) 129, rI 1 (.mv (.t 129)) 128]) (.ite (.t 128) (.reg [rI 0 (.mv (.t 0)) 130, rI 1 (.ld (some 5) (.t 3)) 131, rI 2 (.call 137 [.t 130, .t 131]) 132]) (.seq (.reg [rI 0 (.bin .eql (.t 40) (.k (.int .i64 8))) 134, rI 1 (.mv (.t 134)) 133]) (.ite (.t 133) (.seq (.reg [rI 0 (.mv (.t 4)) 135, rI 1 (.fa (.t 3) 2) 136, rI 2 (.ld none (.t 136)) 137, rI 3 (.ias (.t 135) (.t 137) 1) 138, rI 4 (.ld none (.t 138)) 139, rI 5 (.mv (.t 139)) 6]) (.seq (.seq (.reg [rI 0 (.mv (.t 6)) 140, rI 1 (.bin .lss (.t 140) (.k (.int .i64 0))) 141, rI 2 (.mv (.t 141)) 142, ⟨3, .mv (.t 6), some 143, some (142, false), []⟩, ⟨4, .mv (.t 0), some 144, some (142, false), []⟩, ⟨5, .nc (.t 144), some 145, some (142, false), []⟩, ⟨6, .fa (.t 145) 2, some 146, some (142, false), []⟩, ⟨7, .ld none (.t 146), some 147, some (142, false), []⟩, ⟨8, .len (.t 147), some 148, some (142, false), []⟩, ⟨9, .bin .geq (.t 143) (.t 148), some 149, some (142, false), []⟩, rI 10 (.pick (.t 142) (.k (.bool true)) (.t 149)) 150]) (.ite (.t 150) (.seq (.reg [rI 0 (.mv (.t 0)) 151, rI 1 (.call 134 [.t 151, .k (.int .i64 (-12))]) 152]) .ret) .skip)) (.reg [rI 0 (.mv (.t 4)) 153, rI 1 (.fa (.t 3) 1) 154, rI 3 (.mv (.t 0)) 156, rI 4 (.nc (.t 156)) 157, rI 5 (.fa (.t 157) 2) 158, rI 7 (.mv (.t 6)) 160, rI 2 (.ld none (.t 154)) 155, rI 6 (.ld none (.t 158)) 159, rI 8 (.ias (.t 159) (.t 160) 1) 161, rI 9 (.ld none (.t 161)) 162, rI 10 (.nc (.t 162)) 163, rI 11 (.fa (.t 163) 1) 164, rI 12 (.ld none (.t 164)) 165, rI 13 (.ias (.t 153) (.t 155) 1) 166, ⟨14, .st (.t 166) (.t 165) 1, none, none, []⟩]))) (.seq (.reg [rI 0 (.bin .eql (.t 40) (.k (.int .i64 9))) 168, rI 1 (.mv (.t 168)) 167]) (.ite (.t 167) (.reg [rI 0 (.mv (.t 0)) 169, rI 1 (.mv (.t 4)) 170, rI 2 (.fa (.t 3) 1) 171, rI 3 (.ld none (.t 171)) 172, rI 4 (.ias (.t 170) (.t 172) 1) 173, rI 5 (.ld none (.t 173)) 174, rI 6 (.call 134 [.t 169, .t 174]) 175]) (.seq (.reg [rI 0 (.bin .eql (.t 40) (.k (.int .i64 10))) 177, rI 1 (.mv (.t 177)) 176]) (.ite (.t 176) (.reg [rI 0 (.mv (.t 0)) 178, rI 1 (.mv (.t 4)) 179, rI 2 (.fa (.t 3) 1) 180, rI 3 (.ld none (.t 180)) 181, rI 4 (.ias (.t 179) (.t 181) 1) 182, rI 5 (.ld none (.t 182)) 183, rI 6 (.bld [.int .i64 0, .int .i64 0] [(0, 1, .k (.int .i64 1)), (1, 1, .t 183)]) 184, rI 7 (.call 101 [.t 178, .t 184]) 185]) (.seq (.reg [rI 0 (.bin .eql (.t 40) (.k (.int .i64 13))) 187, rI 1 (.mv (.t 187)) 186]) (.ite (.t 186) (.seq (.reg [rI 0 (.mv (.t 2)) 188, rI 1 (.mv (.t 2)) 189, rI 2 (.nc (.t 189)) 190, rI 3 (.fa (.t 190) 4) 191, rI 4 (.ld none (.t 191)) 192, rI 5 (.mv (.t 5)) 193, rI 6 (.bsl [.int .i64 0] 1 [(0, .t 193)]) 194, rI 7 (.app 1 8 (.t 192) (.t 194)) 195, rI 8 (.nc (.t 188)) 196, rI 9 (.fa (.t 196) 4) 197, ⟨10, .st (.t 197) (.t 195) 1, none, none, []⟩]) (.reg [rI 0 (.mv (.t 0)) 198, rI 1 (.call 130 [.t 198]) 199, rI 2 (.nc (.t 199)) 200, rI 3 (.fa (.t 200) 8) 201, rI 4 (.ld none (.t 201)) 202, rI 5 (.bin .add (.t 202) (.k (.int .i64 1))) 203, rI 6 (.nc (.t 199)) 204, rI 7 (.fa (.t 204) 8) 205, ⟨8, .st (.t 205) (.t 203) 1, none, none, []⟩])) (.seq (.reg [rI 0 (.bin .eql (.t 40) (.k (.int .i64 14))) 207, rI 1 (.mv (.t 207)) 206]) (.ite (.t 206) (.seq (.reg [rI 0 (.mv (.t 4)) 208, rI 1 (.fa (.t 3) 1) 209, rI 2 (.ld none (.t 209)) 210, rI 3 (.ias (.t 208) (.t 210) 1) 211, rI 4 (.ld none (.t 211)) 212, rI 5 (.bin .gtr (.t 212) (.k (.int .i64 0))) 213]) (.ite (.t 213) (.seq (.reg [rI 0 (.mv (.t 4)) 214, rI 1 (.fa (.t 3) 1) 215, rI 2 (.ld none (.t 215)) 216, rI 3 (.ias (.t 214) (.t 216) 1) 217, rI 4 (.ld none (.t 217)) 218, rI 5 (.bin .sub (.t 218) (.k (.int .i64 1))) 219, rI 6 (.ias (.t 214) (.t 216) 1) 220, ⟨7, .st (.t 220) (.t 219) 1, none, none, []⟩]) (.seq (.reg [rI 0 (.mv (.t 2)) 221, rI 1 (.mv (.t 5)) 222, rI 2 (.nc (.t 221)) 223, rI 3 (.fa (.t 223) 2) 224, ⟨4, .st (.t 224) (.t 222) 1, none, none, []⟩]) (.reg [rI 0 (.mv (.t 0)) 225, rI 1 (.mv (.t 5)) 226, rI 2 (.fa (.t 3) 0) 227, rI 3 (.ld none (.t 227)) 228, rI 4 (.mv (.t 5)) 229, rI 5 (.bin .add (.t 229) (.k (.int .i64 1))) 230, rI 6 (.mv (.t 5)) 231, rI 7 (.bin .add (.t 231) (.k (.int .i64 1))) 232, rI 8 (.fa (.t 3) 4) 233, rI 9 (.ld none (.t 233)) 234, rI 10 (.bin .add (.t 232) (.t 234)) 235, rI 11 (.call 97 [.t 225, .t 226, .t 228, .t 230, .t 235]) 236]))) .skip)) (.seq (.reg [rI 0 (.bin .eql (.t 40) (.k (.int .i64 15))) 238, rI 1 (.mv (.t 238)) 237]) (.ite (.t 237) (.seq (.reg [rI 0 (.mv (.t 4)) 239, rI 1 (.fa (.t 3) 1) 240, rI 2 (.ld none (.t 240)) 241, rI 3 (.ias (.t 239) (.t 241) 1) 242, rI 4 (.ld none (.t 242)) 243, rI 5 (.bin .neq (.t 243) (.k (.int .i64 0))) 244]) (.ite (.t 244) (.reg [rI 0 (.mv (.t 0)) 245, rI 1 (.mv (.t 5)) 246, rI 2 (.fa (.t 3) 0) 247, rI 3 (.ld none (.t 247)) 248, rI 4 (.mv (.t 5)) 249, rI 5 (.bin .add (.t 249) (.k (.int .i64 1))) 250, rI 6 (.mv (.t 5)) 251, rI 7 (.bin .add (.t 251) (.k (.int .i64 1))) 252, rI 8 (.fa (.t 3) 4) 253, rI 9 (.ld none (.t 253)) 254, rI 10 (.bin .add (.t 252) (.t 254)) 255, rI 11 (.call 97 [.t 245, .t 246, .t 248, .t 250, .t 255]) 256]) .skip)) (.reg [rI 0 (.mv (.t 0)) 41, rI 1 (.mv (.t 5)) 42, rI 2 (.fa (.t 3) 0) 43, rI 3 (.ld none (.t 43)) 44, rI 4 (.mv (.t 5)) 45, rI 5 (.bin .add (.t 45) (.k (.int .i64 1))) 46, rI 6 (.mv (.t 5)) 47, rI 7 (.bin .add (.t 47) (.k (.int .i64 1))) 48, rI 8 (.fa (.t 3) 4) 49, rI 9 (.ld none (.t 49)) 50, rI 10 (.bin .add (.t 48) (.t 50)) 51, rI 11 (.call 97 [.t 41, .t 42, .t 44, .t 46, .t 51]) 52])))))))))))))))))))))))))))))
def r102 : RFun := ⟨257, [], (.seq (.reg [rI 0 (.mv (.t 0)) 7, rI 1 (.call 99 [.t 7]) 8, rI 2 (.mv (.t 8)) 2]) (.seq (.seq (.reg [rI 0 (.mv (.t 0)) 9, rI 1 (.call 131 [.t 9]) 10, rI 2 (.nt (.t 10)) 11]) (.ite (.t 11) .ret .skip)) (.seq (.reg [rI 8 (.alc [.int .i64 0, .int .i64 0, .int .i64 0, .int .i64 0, .int .i64 0]) 3, rI 0 (.mv (.t 0)) 12, rI 2 (.mv (.t 2)) 14, rI 3 (.nc (.t 14)) 15, rI 4 (.fa (.t 15) 2) 16, rI 5 (.ld none (.t 16)) 17, ⟨1, .call 98 [.t 12], some 13, none, [.al 3 [.int .i64 0, .int .i64 0, .int .i64 0, .int .i64 0, .int .i64 0], .ld 17 none (.t 16)]⟩, rI 6 (.ias (.t 13) (.t 17) 5) 18, rI 7 (.ld (some 5) (.t 18)) 19, ⟨9, .st (.t 3) (.t 19) 5, none, none, []⟩]) (.seq (.reg [rI 0 (.mv (.t 0)) 20, rI 1 (.call 130 [.t 20]) 21, rI 2 (.nc (.t 21)) 22, rI 3 (.fa (.t 22) 2) 23, rI 4 (.ld none (.t 23)) 24, rI 5 (.mv (.t 24)) 4]) (.seq (.reg [rI 0 (.mv (.t 2)) 25, rI 1 (.nc (.t 25)) 26, rI 2 (.fa (.t 26) 2) 27, rI 3 (.ld none (.t 27)) 28, rI 4 (.mv (.t 28)) 5]) (.seq (.reg [rI 0 (.mv (.t 2)) 29, rI 1 (.nc (.t 29)) 30, rI 2 (.fa (.t 30) 2) 31, rI 4 (.fa (.t 3) 4) 33, rI 3 (.ld none (.t 31)) 32, rI 5 (.ld none (.t 33)) 34, rI 6 (.bin .add (.k (.int .i64 1)) (.t 34)) 35, rI 7 (.bin .add (.t 32) (.t 35)) 36, rI 8 (.nc (.t 29)) 37, rI 9 (.fa (.t 37) 2) 38, ⟨10, .st (.t 38) (.t 36) 1, none, none, []⟩]) t102))))))⟩
theorem p102 : prog 102 = some r102 := by kernel_rfl



section
variable {E : IEnv} {L L' : Lay IR} {S S' : PM} {μ μ' : Mem}

theorem act_ok (h : Rep E L S μ) (hroom : S.tasks.length < roomy) {k : Nat} (hk : S.run = k) {t : PTk} {f : PFr} {r : List PFr} {x : PStep} {hd : Int} {b : Nat}
  (hget : S.tasks[k]? = some t) (hf : t.frames = f :: r) (hfl : t.frames.length < roomy) (hx : XAt μ b x) (hfree : Free L b) (hbl : b < μ.next) (hs : PM.act E.plan S t f r x hd = some S')
  {fr : Fr} {Q : Fr → Mem → Prop} (f0 : fr 0 = pt E.m 0) (f2 : fr 2 = pt (L.id (.frames k)) (r.length * 8)) (f3 : fr 3 = pt b 0) (f4 : fr 4 = .c (L.sc (.regs k) 4)) (f5 : fr 5 = .c (.int .i64 hd))
  (hQ : ∀ fr μ', After E L S μ S' μ' → Q fr μ') : R [.c t102] fr μ Q := by
 have hm := h.mfacts
 have htf := h.tfacts hget
 have hx' := hx
 unfold XAt at hx'
 obtain ⟨hx0, hx1, hx2, hx3, hx4, hx5⟩ := hx'
 obtain ⟨ta, tc, hts⟩ := h.tsc
 unfold PM.act at hs
 simp only [rI, t102]
 simp only [w1, w2, ↓reduceIte, zE, f3, hx0]
 by_cases h1 : x.op = 1
 ·rw [if_pos h1] at hs
  obtain ⟨t', hr, hs⟩ := Option.map_eq_some_iff.1 hs
  subst hs
  obtain ⟨ha, μ1, e1, g1, k1⟩ := h.setReg hget hr
  simp only [w1, w2, zH, zI, ↓reduceIte, zA, h1, f3, f4, hx1, hx3, ha, e1]
  exact hQ _ _ ⟨L, by rw [hk]; exact g1, Stay.refl, k1⟩
 rw [if_neg h1] at hs
 simp only [w1, w2, ↓reduceIte, zA, zE, beq_ff h1]
 by_cases h2 : x.op = 2
 ·rw [if_pos h2] at hs
  obtain ⟨v, hv, hs⟩ := Option.bind_eq_some_iff.1 hs
  obtain ⟨t', hr, hs⟩ := Option.map_eq_some_iff.1 hs
  subst hs
  obtain ⟨hb, l1⟩ := h.ldreg hget hv
  obtain ⟨ha, μ1, e1, g1, k1⟩ := h.setReg hget hr
  unfold wr64 at e1
  simp only [w1, w2, zH, zI, ↓reduceIte, zA, h2, f3, f4, hx1, hx2, hx3, ha, hb, l1, e1]
  exact hQ _ _ ⟨L, by rw [hk]; exact g1, Stay.refl, k1⟩
 rw [if_neg h2] at hs
 simp only [w1, w2, ↓reduceIte, zA, zE, beq_ff h2]
 by_cases h3 : x.op = 3
 ·rw [if_pos h3] at hs
  obtain ⟨v, hv, hs⟩ := Option.bind_eq_some_iff.1 hs
  obtain ⟨hb, l1⟩ := h.ldreg hget hv
  simp only [w1, w2, ↓reduceIte, zA, h3, f0, f3, f4, hx1, hb, l1]
  refine R_calls (l := [pt E.m 0, .c (.int .i64 1), .c (.int .i64 0), .c (.int .i64 v)]) (by simp only [w1, w2, ↓reduceIte, zA]) (tell_ok h hs) ?_
  rintro v' μ1 ha
  simp only [w1]
  exact hQ _ _ ha
 rw [if_neg h3] at hs
 simp only [w1, w2, ↓reduceIte, zA, zE, beq_ff h3]
 by_cases h4 : x.op = 4
 ·rw [if_pos h4] at hs
  rw [hts] at hm
  simp only [w1, w2, ↓reduceIte, zA, zE, h4, f0, hm]
  by_cases hl : S.tasks.length = 60
  ·rw [if_pos hl] at hs
   have hlb : ((S.tasks.length : Int) == 60) = true := beq_tt (by omega)
   simp only [w1, w2, ↓reduceIte, zA, zE, hlb, f0]
   refine R_calls (l := [pt E.m 0, .c (.int .i64 (-10))]) (by simp only [w1, w2, ↓reduceIte, zE]) (throw_ok h hs) ?_
   rintro v' μ1 ha
   simp only [w1]
   exact hQ _ _ ha
  ·rw [if_neg hl] at hs
   have hlb : ((S.tasks.length : Int) == 60) = false := beq_ff (by omega)
   obtain ⟨S1, hc, hs1⟩ := Option.bind_eq_some_iff.1 hs
   obtain ⟨t', hr, hs2⟩ := Option.map_eq_some_iff.1 hs1
   subst hs2
   rw [PM.create, if_pos hroom] at hc
   simp only [Option.some.injEq] at hc
   subst hc
   obtain ⟨L1, μ1, μ2, e1, e2, g1, s1, k1, hir⟩ := h.pushTask x.b 0 hroom
   have hg1 : ({ S with tasks := S.tasks ++ [newTask x.b 0] } : PM).tasks[k]? = some t := by
    show (S.tasks ++ _)[k]? = some t
    rw [List.getElem?_append_left (List.getElem?_eq_some_iff.1 hget).1]; exact hget
   have hm1 := g1.mfacts
   simp only [List.length_append, List.length_cons, List.length_nil, Nat.zero_add] at hm1
   obtain ⟨a, c, hsc⟩ := g1.has.scf (r := .tasks) (sz := 1) (n := S.tasks.length + 1) (cs := cat (trow L1) 0 (S.tasks ++ [newTask x.b 0])) rfl (by rw [cat_length (trow_len L1)]; simp) (by omega)
   rw [hsc] at hm1 e1 e2
   obtain ⟨ha, μ3, e3, g3, k3⟩ := g1.setReg hg1 hr
   have hx2' := (k1.ld (n := none) (o := 1) hbl hfree).trans hx1
   have hir' := hir k (List.getElem?_eq_some_iff.1 hget).1
   rw [hir'] at ha
   unfold wr64 at e3
   rw [hts] at e1
   simp only [ntk, zero4] at e1
   have em : amks [.int .i64 0] 8 (.c (.int .i64 4)) (.c (.int .i64 4)) μ = some (.c (.slc (some (μ.next, 0)) 4 4), μ.new [.int .i64 0, .int .i64 0, .int .i64 0, .int .i64 0] 1) := by
    unfold amks; simp only; rw [if_pos ⟨by omega, trivial, by decide, by decide⟩]; rfl
   simp only [w1, w2, zH, zI, ↓reduceIte, zA, zB, zE, hlb, f0, f3, f4, hm, hx2, em, m2, fillc, wr, rep, zJ, zB, zK, List.append_nil, Mem.new_next, e1, e2, hx2', hm1, ha, e3]
   refine hQ _ _ ⟨L1, ?_, s1, k1.trans k3⟩
   have e9 : ({ S with tasks := S.tasks ++ [newTask x.b 0] } : PM).run = (k : Int) := hk
   rw [← e9] at g3; exact g3
 rw [if_neg h4] at hs
 simp only [w1, w2, ↓reduceIte, zA, zE, beq_ff h4]
 by_cases h5 : x.op = 5
 ·rw [if_pos h5] at hs
  simp only [w1, w2, ↓reduceIte, zA, h5, f0, f3, hx5]
  refine R_calls (l := [pt E.m 0, .agg (xcells x)]) (by simp only [w1, w2, ↓reduceIte, zA]) (resume_ok h hs) ?_
  rintro v' μ1 ha
  simp only [w1]
  exact hQ _ _ ha
 rw [if_neg h5] at hs
 simp only [w1, w2, ↓reduceIte, zA, zE, beq_ff h5]
 by_cases h6 : x.op = 6
 ·rw [if_pos h6] at hs
  simp only [w1, w2, ↓reduceIte, zA, h6, f0, f3, hx5]
  refine R_calls (l := [pt E.m 0, .agg (xcells x)]) (by simp only [w1, w2, ↓reduceIte, zA]) (yield_ok h hs) ?_
  rintro v' μ1 ha
  simp only [w1]
  exact hQ _ _ ha
 rw [if_neg h6] at hs
 simp only [w1, w2, ↓reduceIte, zA, zE, beq_ff h6]
 by_cases h7 : x.op = 7
 ·rw [if_pos h7] at hs
  simp only [w1, w2, ↓reduceIte, zA, h7, f0, f3, hx5]
  refine R_calls (l := [pt E.m 0, .agg (xcells x)]) (by simp only [w1, w2, ↓reduceIte, zA]) (giveUp_ok h hs) ?_
  rintro v' μ1 ha
  simp only [w1]
  exact hQ _ _ ha
 rw [if_neg h7] at hs
 simp only [w1, w2, ↓reduceIte, zA, zE, beq_ff h7]
 by_cases h8 : x.op = 8
 ·rw [if_pos h8] at hs
  obtain ⟨n, hv, hs⟩ := Option.bind_eq_some_iff.1 hs
  obtain ⟨hb, l1⟩ := h.ldreg hget hv
  simp only [w1, w2, ↓reduceIte, zA, zE, h8, f3, f4, hx2, hb, l1]
  by_cases hneg : n < 0
  ·rw [if_pos (.inl hneg)] at hs
   simp only [w1, w2, ↓reduceIte, zA, zE, decide_eq_true hneg, f0]
   refine R_calls (l := [pt E.m 0, .c (.int .i64 (-12))]) (by simp only [w1, w2, ↓reduceIte, zE]) (throw_ok h hs) ?_
   rintro v' μ1 ha
   simp only [w1]
   exact hQ _ _ ha
  by_cases hge : n ≥ (S.tasks.length : Int)
  ·rw [if_pos (.inr hge)] at hs
   rw [hts] at hm
   simp only [w1, w2, ↓reduceIte, zA, zE, decide_eq_false hneg, decide_eq_true hge, f0, hm]
   refine R_calls (l := [pt E.m 0, .c (.int .i64 (-12))]) (by simp only [w1, w2, ↓reduceIte, zE]) (throw_ok h hs) ?_
   rintro v' μ1 ha
   simp only [w1]
   exact hQ _ _ ha
  rw [if_neg (by intro hh; rcases hh with hh | hh; exact hneg hh; exact hge hh)] at hs
  obtain ⟨u, hu, hs⟩ := Option.bind_eq_some_iff.1 hs
  obtain ⟨t', hr, hs⟩ := Option.map_eq_some_iff.1 hs
  subst hs
  obtain ⟨m, rfl, hgu⟩ := idx_some hu
  have huf := h.tfacts hgu
  obtain ⟨tb, to, e1, e2⟩ := h.tasksAt hgu
  obtain ⟨ha, μ1, e3, g1, k1⟩ := h.setReg hget hr
  rw [hts] at hm e1
  simp only [w1, w2, zH, zI, ↓reduceIte, zA, zE, decide_eq_false hneg, decide_eq_false hge, f0, f3, f4, hm, hx1, e1, e2, huf, ha, e3]
  exact hQ _ _ ⟨L, by rw [hk]; exact g1, Stay.refl, k1⟩
 rw [if_neg h8] at hs
 simp only [w1, w2, ↓reduceIte, zA, beq_ff h8]
 by_cases h9 : x.op = 9
 ·rw [if_pos h9] at hs
  obtain ⟨v, hv, hs⟩ := Option.bind_eq_some_iff.1 hs
  obtain ⟨hb, l1⟩ := h.ldreg hget hv
  simp only [w1, w2, ↓reduceIte, zA, h9, f0, f3, f4, hx1, hb, l1]
  refine R_calls (l := [pt E.m 0, .c (.int .i64 v)]) (by simp only [w1, w2, ↓reduceIte, zA]) (throw_ok h hs) ?_
  rintro v' μ1 ha
  simp only [w1]
  exact hQ _ _ ha
 rw [if_neg h9] at hs
 simp only [w1, w2, ↓reduceIte, zA, beq_ff h9]
 by_cases h10 : x.op = 10
 ·rw [if_pos h10] at hs
  obtain ⟨v, hv, hs⟩ := Option.bind_eq_some_iff.1 hs
  obtain ⟨hb, l1⟩ := h.ldreg hget hv
  simp only [w1, w2, zH, zI, ↓reduceIte, zA, zB, h10, f0, f3, f4, hx1, hb, l1, m2, fillc, wr, zJ, zB]
  refine R_calls (l := [pt E.m 0, .agg [.int .i64 1, .int .i64 v]]) (by simp only [w1, w2, ↓reduceIte, zA]) (mark_ok h hs) ?_
  rintro v' μ1 ⟨g1, k1⟩
  simp only [w1]
  exact hQ _ _ ⟨L, g1, Stay.refl, k1⟩
 rw [if_neg h10] at hs
 simp only [w1, w2, ↓reduceIte, zA, beq_ff h10]
 by_cases h13 : x.op = 13
 ·rw [if_pos h13] at hs
  split at hs
  ·rename_i hml
   simp only [Option.some.injEq] at hs
   subst hs
   obtain ⟨_, hrow, _⟩ := h.topAt hget hf
   have r4 := hrow 4 _ rfl
   obtain ⟨L1, μ1, μ2, e1, e2, g1, s1, k1, hid⟩ := h.pushMet hget hf hd hml
   have htf1 := g1.tfacts (put_at hget)
   obtain ⟨μ3, e3, g3, k3⟩ := g1.setTask (put_at hget) (t' := { t with frames := { f with met := hd :: f.met } :: r, kept := wr64 (t.kept + 1) }) (o := 8) (new := [.int .i64 (wr64 (t.kept + 1))]) rfl (by simp) rfl rfl
   rw [put_put] at g3
   unfold wr64 at e3
   simp only [w1, w2, zH, zI, ↓reduceIte, zA, h13, f0, f2, f5, r4, m2, fillc, wr, rep, zJ, zK, List.append_nil, e1, e2]
   refine R_calls (l := [pt E.m 0]) (by simp only [w1, w2, ↓reduceIte]) (task_ok g1 (k := k) hk (put_at hget)) ?_
   rintro v' μ4 ⟨rfl, rfl⟩
   simp only [w1, w2, zH, zI, ↓reduceIte, zA, htf1, e3]
   exact hQ _ _ ⟨L1, by rw [hk]; exact g3, s1, k1.trans k3⟩
  ·cases hs
 rw [if_neg h13] at hs
 simp only [w1, w2, ↓reduceIte, zA, beq_ff h13]
 by_cases h14 : x.op = 14
 ·rw [if_pos h14] at hs
  obtain ⟨v, hv, hs⟩ := Option.bind_eq_some_iff.1 hs
  obtain ⟨hb, l1⟩ := h.ldreg hget hv
  simp only [w1, w2, ↓reduceIte, zA, h14, f3, f4, hx1, hb, l1]
  by_cases hv0 : v > 0
  ·rw [if_pos hv0, hk] at hs
   obtain ⟨t', hr, hs⟩ := Option.bind_eq_some_iff.1 hs
   obtain ⟨ha, μ1, e1, g1, k1⟩ := h.setReg hget hr
   have hf' : t'.frames = f :: r := by
    unfold PTk.setReg at hr
    split at hr
    ·simp only [Option.some.injEq] at hr; subst hr; exact hf
    ·cases hr
   obtain ⟨μ2, e2, g2, k2⟩ := g1.setTop (put_at hget) hf' (f' := { f with pc := hd }) (k := 2) (new := [.int .i64 hd]) rfl (by simp) rfl
   rw [put_put] at g2
   have hx2' := hx.keep (k1.trans k2) hbl hfree
   unfold XAt at hx2'
   unfold wr64 at e1
   rw [h14] at hx2'
   simp only [w1, w2, zH, zI, ↓reduceIte, zA, decide_eq_true hv0, f0, f2, f3, f4, f5, hx1, ha, l1, e1, e2, hx2']
   rw [h14] at hs
   refine R_calls (l := [pt E.m 0, .c (.int .i64 hd), .c (.int .i64 14), .c (.int .i64 (wr64 (hd + 1))), .c (.int .i64 (wr64 (wr64 (hd + 1) + x.size)))]) (by simp only [w1, w2, ↓reduceIte, zA, wr64]) (opens_ok g2 hs) ?_
   rintro v' μ3 ⟨L3, g3, s3, k3⟩
   simp only [w1]
   exact hQ _ _ ⟨L3, g3, s3.put, k1.trans (k2.trans k3)⟩
  ·rw [if_neg hv0] at hs
   simp only [Option.some.injEq] at hs
   subst hs
   simp only [w1, decide_eq_false hv0]
   exact hQ _ _ ⟨L, h, Stay.refl, Keep.refl⟩
 rw [if_neg h14] at hs
 simp only [w1, w2, ↓reduceIte, zA, beq_ff h14]
 by_cases h15 : x.op = 15
 ·rw [if_pos h15] at hs
  obtain ⟨v, hv, hs⟩ := Option.bind_eq_some_iff.1 hs
  obtain ⟨hb, l1⟩ := h.ldreg hget hv
  simp only [w1, w2, ↓reduceIte, zA, h15, f3, f4, hx1, hb, l1]
  by_cases hv0 : v = 0
  ·rw [if_neg (by simpa using hv0)] at hs
   simp only [Option.some.injEq] at hs
   subst hs
   simp only [w1, bne_ff hv0]
   exact hQ _ _ ⟨L, h, Stay.refl, Keep.refl⟩
  ·rw [if_pos hv0] at hs
   rw [h15] at hs hx0
   simp only [w1, w2, ↓reduceIte, zA, bne_tt hv0, f0, f3, f5, hx0, hx4]
   refine R_calls (l := [pt E.m 0, .c (.int .i64 hd), .c (.int .i64 15), .c (.int .i64 (wr64 (hd + 1))), .c (.int .i64 (wr64 (wr64 (hd + 1) + x.size)))]) (by simp only [w1, w2, ↓reduceIte, zA, wr64]) (opens_ok h hs) ?_
   rintro v' μ3 ha
   simp only [w1]
   exact hQ _ _ ha
 rw [if_neg h15] at hs
 simp only [w1, w2, ↓reduceIte, zA, beq_ff h15, f0, f3, f5, hx0, hx4]
 refine R_calls (l := [pt E.m 0, .c (.int .i64 hd), .c (.int .i64 x.op), .c (.int .i64 (wr64 (hd + 1))), .c (.int .i64 (wr64 (wr64 (hd + 1) + x.size)))]) (by simp only [w1, w2, ↓reduceIte, zA, wr64]) (opens_ok h hs) ?_
 rintro v' μ3 ha
 simp only [w1]
 exact hQ _ _ ha

theorem al_holds {d : Nat} {fr : Fr} (h : fr d = pt μ.next 0) :
  (Re.al d [.int .i64 0, .int .i64 0, .int .i64 0, .int .i64 0, .int .i64 0]).holds fr (μ.new [.int .i64 0, .int .i64 0, .int .i64 0, .int .i64 0, .int .i64 0] 0) = true := by
 have e : (μ.new [.int .i64 0, .int .i64 0, .int .i64 0, .int .i64 0, .int .i64 0] 0).ld (some 5) μ.next 0 = some (.agg [.int .i64 0, .int .i64 0, .int .i64 0, .int .i64 0, .int .i64 0]) := by
  rw [Mem.new_ld, if_pos rfl]; rfl
 have o : (μ.new [.int .i64 0, .int .i64 0, .int .i64 0, .int .i64 0, .int .i64 0] 0).obj μ.next = some ⟨[.int .i64 0, .int .i64 0, .int .i64 0, .int .i64 0, .int .i64 0], 0, false⟩ := by
  simp only [Mem.new, if_true]
 simp only [Re.holds, h, List.length_cons, List.length_nil, Nat.zero_add, Nat.reduceAdd, e, o, beq_self_eq_true, Bool.not_false, Bool.and_self]

theorem tick_len : S.tick.2.tasks.length = S.tasks.length := by rw [tick_tasks.1]

theorem step_ok (h : Rep E L S μ) (hroom : S.tasks.length < roomy) (hs : S.step E.plan = some S') : Ret 102 [pt E.m 0] μ fun v μ' => After E L S μ S' μ' := by
 unfold PM.step at hs
 obtain ⟨t, hn, hs1⟩ := Option.bind_eq_some_iff.1 hs
 obtain ⟨k, hk, hget, hfl⟩ := now_some hn
 cases hf : t.frames with
 | nil => rw [hf] at hs1; cases hs1
 | cons f r =>
 rw [hf] at hs1
 simp only at hs1
 refine Ret_of p102 (by simp [r102]) ?_
 simp only [rI, r102, frOf_1]
 simp only [w1, w2, ↓reduceIte]
 refine R_calls (l := [pt E.m 0]) (by simp only [w1, w2, ↓reduceIte]) (top_ok h hk hget hf hfl) ?_
 rintro v μ0 ⟨rfl, rfl⟩
 simp only [w1, w2, ↓reduceIte, zA]
 refine R_calls (l := [pt E.m 0]) (by simp only [w1, w2, ↓reduceIte]) (tick_ok h) ?_
 rintro v μ1 ⟨rfl, h1, k1⟩
 by_cases ht : S.tick.1 = false
 ·rw [if_pos ht] at hs1
  simp only [Option.some.injEq] at hs1
  subst hs1
  simp only [w1, w2, ↓reduceIte, ht, aRet, aRes, toCells]
  exact ⟨_, rfl, L, h1, Stay.refl, k1⟩
 rw [if_neg ht] at hs1
 have ht' : S.tick.1 = true := by simpa using ht
 obtain ⟨t2, hn2, hs2⟩ := Option.bind_eq_some_iff.1 hs1
 have htt : t2 = t := by
  have a : S.tick.2.now = S.now := by unfold PM.now; rw [tick_tasks.1, tick_tasks.2]
  rw [a, hn] at hn2
  exact (Option.some.inj hn2).symm
 subst htt
 rw [hf] at hs2
 simp only at hs2
 obtain ⟨l, hsl, hs3⟩ := Option.bind_eq_some_iff.1 hs2
 obtain ⟨x, hx, hs4⟩ := Option.bind_eq_some_iff.1 hs3
 have hk1 : S.tick.2.run = (k : Int) := tick_tasks.2.trans hk
 have hget1 : S.tick.2.tasks[k]? = some t2 := by rw [tick_tasks.1]; exact hget
 have h2 : Rep E L S.tick.2 (μ1.new [.int .i64 0, .int .i64 0, .int .i64 0, .int .i64 0, .int .i64 0] 0) := h1.tmp
 obtain ⟨c, hc, hst⟩ := steps_ok h2 hk1 hget1 hsl
 obtain ⟨j, hj, hjx⟩ := idx_some hx
 obtain ⟨b, o, e1, e2, e3, e4⟩ := h2.stepAt hc hjx
 obtain ⟨_, hrow, _⟩ := h2.topAt hget1 hf
 have r2 := hrow 2 _ rfl
 rw [← hj] at e1
 rw [hk] at hs4
 simp only [w1, w2, ↓reduceIte, zA, ht', r2]
 refine R_callre (l := [pt E.m 0]) (by simp only [w1, w2, ↓reduceIte, zA]) hst ?_
 rintro v μ2 ⟨rfl, rfl⟩
 refine ⟨?_, ?_⟩
 ·rw [List.all_cons, List.all_cons, List.all_nil, al_holds (by simp only [w1, ↓reduceIte, zA])]
  simp only [Re.holds, w1, ↓reduceIte, zA, r2, beq_self_eq_true, Bool.and_true]
 have es : (μ1.new [.int .i64 0, .int .i64 0, .int .i64 0, .int .i64 0, .int .i64 0] 0).st μ1.next 0 [.int .i64 x.op, .int .i64 x.a, .int .i64 x.b, .int .i64 x.n, .int .i64 x.size] = some (μ1.new [.int .i64 x.op, .int .i64 x.a, .int .i64 x.b, .int .i64 x.n, .int .i64 x.size] 0) := new_st0 rfl
 have h3 : Rep E L S.tick.2 (μ1.new (xcells x) 0) := h1.tmp
 have hx3 : XAt (μ1.new (xcells x) 0) μ1.next x := XAt.new
 have hf3 : Free L μ1.next := h1.free (Nat.le_refl _)
 have hb3 : μ1.next < (μ1.new (xcells x) 0).next := Nat.lt_succ_self _
 have k3 : Keep L μ1 L (μ1.new (xcells x) 0) := Keep.tmp
 simp only [xcells] at h3 hx3 hb3 k3 e3
 simp only [w1, w2, zH, zI, ↓reduceIte, zA, zB, e1, e3, es]
 generalize μ1.new [.int .i64 x.op, .int .i64 x.a, .int .i64 x.b, .int .i64 x.n, .int .i64 x.size] 0 = μ3 at *
 refine R_calls (l := [pt E.m 0]) (by simp only [w1, w2, ↓reduceIte]) (task_ok h3 hk1 hget1) ?_
 rintro v μ4 ⟨rfl, rfl⟩
 have htf := h3.tfacts hget1
 obtain ⟨_, hrow3, _⟩ := h3.topAt hget1 hf
 have q2 := hrow3 2 _ rfl
 have hx4' := hx3
 unfold XAt at hx4'
 obtain ⟨μ5, e5, h5, k5⟩ := h3.setTop hget1 hf (f' := { f with pc := wr64 (f.pc + wr64 (1 + x.size)) }) (k := 2) (new := [.int .i64 (wr64 (f.pc + wr64 (1 + x.size)))]) rfl (by simp) rfl
 unfold wr64 at e5
 simp only [w1, w2, zH, zI, ↓reduceIte, zA, htf, q2, hx4', e5]
 refine act_ok h5 (by simp only [PM.put, List.length_set, tick_tasks.1]; exact hroom) (k := k) hk1 (put_at hget1) rfl (by rw [hf] at hfl; exact hfl) (hx3.keep k5 hb3 hf3) (k5.free hb3 hf3) (Nat.lt_of_lt_of_le hb3 k5.next) hs4 ?_ ?_ ?_ ?_ ?_ ?_
 ·simp only [w1, ↓reduceIte, zA]
 ·simp only [w1, ↓reduceIte, zA]
 ·simp only [w1, ↓reduceIte, zA]
 ·simp only [w1, ↓reduceIte, zA]
 ·simp only [w1, ↓reduceIte, zA]
 ·intro fr' μ6 ⟨L6, h6, s6, k6⟩
  exact ⟨_, rfl, L6, h6, s6.put.cast (by rw [tick_tasks.1]), k1.trans (k3.trans (k5.trans k6))⟩
end
end Go.Proofs.Ytibmnlijoeppaaa.X
