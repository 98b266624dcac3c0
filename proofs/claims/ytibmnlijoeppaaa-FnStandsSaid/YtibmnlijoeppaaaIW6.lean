/-
 The program's machine: one step of a run.
-/
import Derived.Test.YtibmnlijoeppaaaIW5
namespace Go.Proofs.Ytibmnlijoeppaaa
open Nat renaming reduceEqDiff → zA, reduceAdd → zB, reduceLeDiff → zJ, reduceMul → zK
open Int renaming reduceLT → zC, reduceLE → zD, reduceNeg → zE, reduceBEq → zF, reduceBNe → zG
open AV renaming isTup → zH, cells → zI
set_option linter.unusedSimpArgs false
set_option linter.unusedVariables false

/-! 93: impl.machine).step -/
def t93 : RCode := (.seq (.reg [rI 0 (.mv (.t 2)) 65, rI 1 (.nc (.t 65)) 66, rI 2 (.fa (.t 66) 2) 67, rI 3 (.mv (.t 67)) 6]) (.seq (.reg [rI 0 (.fa (.t 5) 0) 68, rI 1 (.ld none (.t 68)) 69]) (.blk 0 (.seq (.reg [rI 0 (.bin .eql (.t 69) (.k (.int .i64 1))) 71, rI 1 (.mv (.t 71)) 70]) (.ite (.t 70) (.reg [rI 0 (.mv (.t 6)) 72, rI 1 (.fa (.t 5) 1) 73, rI 3 (.fa (.t 5) 3) 75, rI 5 (.nc (.t 72)) 77, rI 2 (.ld none (.t 73)) 74, rI 4 (.ld none (.t 75)) 76, rI 6 (.iaa (.t 77) (.t 74) 4 1) 78, ⟨7, .st (.t 78) (.t 76) 1, none, none, []⟩]) (.seq (.reg [rI 0 (.bin .eql (.t 69) (.k (.int .i64 2))) 80, rI 1 (.mv (.t 80)) 79]) (.ite (.t 79) (.reg [rI 0 (.mv (.t 6)) 81, rI 1 (.fa (.t 5) 1) 82, rI 3 (.mv (.t 6)) 84, rI 4 (.fa (.t 5) 2) 85, rI 6 (.nc (.t 84)) 87, rI 9 (.fa (.t 5) 3) 90, rI 12 (.nc (.t 81)) 93, rI 2 (.ld none (.t 82)) 83, rI 5 (.ld none (.t 85)) 86, rI 7 (.iaa (.t 87) (.t 86) 4 1) 88, rI 8 (.ld none (.t 88)) 89, rI 10 (.ld none (.t 90)) 91, rI 11 (.bin .add (.t 89) (.t 91)) 92, rI 13 (.iaa (.t 93) (.t 83) 4 1) 94, ⟨14, .st (.t 94) (.t 92) 1, none, none, []⟩]) (.seq (.reg [rI 0 (.bin .eql (.t 69) (.k (.int .i64 3))) 96, rI 1 (.mv (.t 96)) 95]) (.ite (.t 95) (.reg [rI 0 (.mv (.t 0)) 97, rI 1 (.mv (.t 6)) 98, rI 2 (.fa (.t 5) 1) 99, rI 4 (.nc (.t 98)) 101, rI 3 (.ld none (.t 99)) 100, rI 5 (.iaa (.t 101) (.t 100) 4 1) 102, rI 6 (.ld none (.t 102)) 103, rI 7 (.call 116 [.t 97, .k (.int .i64 1), .k (.int .i64 0), .t 103]) 104]) (.seq (.reg [rI 0 (.bin .eql (.t 69) (.k (.int .i64 4))) 106, rI 1 (.mv (.t 106)) 105]) (.ite (.t 105) (.seq (.seq (.reg [rI 0 (.mv (.t 0)) 107, rI 1 (.nc (.t 107)) 108, rI 2 (.fa (.t 108) 3) 109, rI 3 (.ld none (.t 109)) 110, rI 4 (.len (.t 110)) 111, rI 5 (.bin .eql (.t 111) (.k (.int .i64 60))) 112]) (.ite (.t 112) (.seq (.reg [rI 0 (.mv (.t 0)) 113, rI 1 (.call 117 [.t 113, .k (.int .i64 (-10))]) 114]) .ret) .skip)) (.reg [rI 0 (.mv (.t 6)) 115, rI 1 (.fa (.t 5) 1) 116, rI 3 (.mv (.t 0)) 118, rI 4 (.fa (.t 5) 2) 119, rI 7 (.nc (.t 115)) 122, rI 2 (.ld none (.t 116)) 117, rI 5 (.ld none (.t 119)) 120, ⟨6, .call 91 [.t 118, .t 120], some 121, none, [.ld 117 none (.t 116)]⟩, rI 8 (.iaa (.t 122) (.t 117) 4 1) 123, ⟨9, .st (.t 123) (.t 121) 1, none, none, []⟩])) (.seq (.reg [rI 0 (.bin .eql (.t 69) (.k (.int .i64 5))) 125, rI 1 (.mv (.t 125)) 124]) (.ite (.t 124) (.reg [rI 0 (.mv (.t 0)) 126, rI 1 (.ld (some 5) (.t 5)) 127, rI 2 (.call 118 [.t 126, .t 127]) 128]) (.seq (.reg [rI 0 (.bin .eql (.t 69) (.k (.int .i64 6))) 130, rI 1 (.mv (.t 130)) 129]) (.ite (.t 129) (.reg [rI 0 (.mv (.t 0)) 131, rI 1 (.ld (some 5) (.t 5)) 132, rI 2 (.call 119 [.t 131, .t 132]) 133]) (.seq (.reg [rI 0 (.bin .eql (.t 69) (.k (.int .i64 7))) 135, rI 1 (.mv (.t 135)) 134]) (.ite (.t 134) (.reg [rI 0 (.mv (.t 0)) 136, rI 1 (.ld (some 5) (.t 5)) 137, rI 2 (.call 120 [.t 136, .t 137]) 138]) (.seq (.reg [rI 0 (.bin .eql (.t 69) (.k (.int .i64 8))) 140, rI 1 (.mv (.t 140)) 139]) (.ite (.t 139) (.seq (.seq (.reg [rI 0 (.mv (.t 0)) 141, rI 1 (.mv (.t 6)) 142, rI 2 (.fa (.t 5) 2) 143, rI 4 (.nc (.t 142)) 145, rI 3 (.ld none (.t 143)) 144, rI 5 (.iaa (.t 145) (.t 144) 4 1) 146, rI 6 (.ld none (.t 146)) 147, rI 7 (.call 121 [.t 141, .t 147]) 148, rI 8 (.mv (.t 148)) 7]) (.seq (.reg [rI 0 (.mv (.t 7)) 149, rI 1 (.eq true .ptr (.t 149) (.k (.ptr none))) 150]) (.ite (.t 150) (.seq (.reg [rI 0 (.mv (.t 6)) 151, rI 1 (.fa (.t 5) 1) 152, rI 3 (.mv (.t 7)) 154, rI 4 (.nc (.t 154)) 155, rI 5 (.fa (.t 155) 1) 156, rI 7 (.nc (.t 151)) 158, rI 2 (.ld none (.t 152)) 153, rI 6 (.ld none (.t 156)) 157, rI 8 (.iaa (.t 158) (.t 153) 4 1) 159, ⟨9, .st (.t 159) (.t 157) 1, none, none, []⟩]) .ret) .skip))) (.reg [rI 0 (.mv (.t 0)) 160, rI 1 (.call 117 [.t 160, .k (.int .i64 (-12))]) 161])) (.seq (.reg [rI 0 (.bin .eql (.t 69) (.k (.int .i64 9))) 163, rI 1 (.mv (.t 163)) 162]) (.ite (.t 162) (.reg [rI 0 (.mv (.t 0)) 164, rI 1 (.mv (.t 6)) 165, rI 2 (.fa (.t 5) 1) 166, rI 4 (.nc (.t 165)) 168, rI 3 (.ld none (.t 166)) 167, rI 5 (.iaa (.t 168) (.t 167) 4 1) 169, rI 6 (.ld none (.t 169)) 170, rI 7 (.call 117 [.t 164, .t 170]) 171]) (.seq (.reg [rI 0 (.bin .eql (.t 69) (.k (.int .i64 10))) 173, rI 1 (.mv (.t 173)) 172]) (.ite (.t 172) (.reg [rI 0 (.mv (.t 3)) 174, rI 1 (.mv (.t 3)) 175, rI 2 (.mv (.t 3)) 176, rI 3 (.mv (.t 6)) 177, rI 4 (.fa (.t 5) 1) 178, rI 6 (.nc (.t 177)) 180, rI 5 (.ld none (.t 178)) 179, rI 7 (.iaa (.t 180) (.t 179) 4 1) 181, rI 8 (.ld none (.t 181)) 182, rI 9 (.nc (.t 174)) 183, rI 10 (.fa (.t 183) 5) 184, ⟨11, .st (.t 184) (.k (.bool true)) 1, none, none, []⟩, rI 12 (.nc (.t 175)) 185, rI 13 (.fa (.t 185) 6) 186, ⟨14, .st (.t 186) (.k (.int .i64 1)) 1, none, none, []⟩, rI 15 (.nc (.t 176)) 187, rI 16 (.fa (.t 187) 7) 188, ⟨17, .st (.t 188) (.t 182) 1, none, none, []⟩]) (.seq (.reg [rI 0 (.bin .eql (.t 69) (.k (.int .i64 13))) 190, rI 1 (.mv (.t 190)) 189]) (.ite (.t 189) (.seq (.reg [rI 0 (.mv (.t 3)) 191, rI 1 (.mv (.t 3)) 192, rI 2 (.nc (.t 192)) 193, rI 3 (.fa (.t 193) 4) 194, rI 4 (.ld none (.t 194)) 195, rI 5 (.mv (.t 4)) 196, rI 6 (.bsl [.int .i64 0] 1 [(0, .t 196)]) 197, rI 7 (.app 1 8 (.t 195) (.t 197)) 198, rI 8 (.nc (.t 191)) 199, rI 9 (.fa (.t 199) 4) 200, ⟨10, .st (.t 200) (.t 198) 1, none, none, []⟩]) (.reg [rI 0 (.mv (.t 2)) 201, rI 1 (.nc (.t 201)) 202, rI 2 (.fa (.t 202) 16) 203, rI 3 (.ld none (.t 203)) 204, rI 4 (.bin .add (.t 204) (.k (.int .i64 1))) 205, rI 5 (.nc (.t 201)) 206, rI 6 (.fa (.t 206) 16) 207, ⟨7, .st (.t 207) (.t 205) 1, none, none, []⟩])) (.seq (.reg [rI 0 (.bin .eql (.t 69) (.k (.int .i64 14))) 209, rI 1 (.mv (.t 209)) 208]) (.ite (.t 208) (.reg [rI 0 (.mv (.t 0)) 210, rI 1 (.mv (.t 2)) 211, rI 2 (.mv (.t 4)) 212, rI 3 (.call 122 [.t 210, .t 211, .t 212]) 213]) (.seq (.seq (.reg [rI 0 (.bin .eql (.t 69) (.k (.int .i64 11))) 215, rI 1 (.mv (.t 215)) 214]) (.ite (.t 214) .skip (.reg [rI 0 (.bin .eql (.t 69) (.k (.int .i64 12))) 216, rI 1 (.mv (.t 216)) 214]))) (.ite (.t 214) (.reg [rI 0 (.mv (.t 2)) 217, rI 1 (.mv (.t 2)) 218, rI 2 (.nc (.t 218)) 219, rI 3 (.fa (.t 219) 12) 220, rI 5 (.fa (.t 5) 0) 222, rI 7 (.mv (.t 4)) 224, rI 8 (.mv (.t 4)) 225, rI 9 (.bin .add (.t 225) (.k (.int .i64 1))) 226, rI 10 (.mv (.t 4)) 227, rI 11 (.bin .add (.t 227) (.k (.int .i64 1))) 228, rI 12 (.fa (.t 5) 4) 229, rI 4 (.ld none (.t 220)) 221, rI 6 (.ld none (.t 222)) 223, rI 13 (.ld none (.t 229)) 230, rI 14 (.bin .add (.t 228) (.t 230)) 231, rI 15 (.bld [.int .i64 0, .int .i64 0, .int .i64 0, .int .i64 0, .slc none 0 0, .bool false, .int .i64 0, .int .i64 0] [(0, 1, .t 223), (1, 1, .t 224), (2, 1, .t 226), (3, 1, .t 231)]) 232, rI 16 (.bsl [.int .i64 0, .int .i64 0, .int .i64 0, .int .i64 0, .slc none 0 0, .bool false, .int .i64 0, .int .i64 0] 1 [(0, .t 232)]) 233, rI 17 (.app 8 80 (.t 221) (.t 233)) 234, rI 18 (.nc (.t 217)) 235, rI 19 (.fa (.t 235) 12) 236, ⟨20, .st (.t 236) (.t 234) 1, none, none, []⟩]) (.seq (.reg [rI 0 (.bin .eql (.t 69) (.k (.int .i64 15))) 238, rI 1 (.mv (.t 238)) 237]) (.ite (.t 237) (.seq (.reg [rI 0 (.mv (.t 6)) 239, rI 1 (.fa (.t 5) 1) 240, rI 3 (.nc (.t 239)) 242, rI 2 (.ld none (.t 240)) 241, rI 4 (.iaa (.t 242) (.t 241) 4 1) 243, rI 5 (.ld none (.t 243)) 244, rI 6 (.bin .neq (.t 244) (.k (.int .i64 0))) 245]) (.ite (.t 245) (.reg [rI 0 (.mv (.t 2)) 246, rI 1 (.mv (.t 2)) 247, rI 2 (.nc (.t 247)) 248, rI 3 (.fa (.t 248) 12) 249, rI 5 (.fa (.t 5) 0) 251, rI 7 (.mv (.t 4)) 253, rI 8 (.mv (.t 4)) 254, rI 9 (.bin .add (.t 254) (.k (.int .i64 1))) 255, rI 10 (.mv (.t 4)) 256, rI 11 (.bin .add (.t 256) (.k (.int .i64 1))) 257, rI 12 (.fa (.t 5) 4) 258, rI 4 (.ld none (.t 249)) 250, rI 6 (.ld none (.t 251)) 252, rI 13 (.ld none (.t 258)) 259, rI 14 (.bin .add (.t 257) (.t 259)) 260, rI 15 (.bld [.int .i64 0, .int .i64 0, .int .i64 0, .int .i64 0, .slc none 0 0, .bool false, .int .i64 0, .int .i64 0] [(0, 1, .t 252), (1, 1, .t 253), (2, 1, .t 255), (3, 1, .t 260)]) 261, rI 16 (.bsl [.int .i64 0, .int .i64 0, .int .i64 0, .int .i64 0, .slc none 0 0, .bool false, .int .i64 0, .int .i64 0] 1 [(0, .t 261)]) 262, rI 17 (.app 8 80 (.t 250) (.t 262)) 263, rI 18 (.nc (.t 246)) 264, rI 19 (.fa (.t 264) 12) 265, ⟨20, .st (.t 265) (.t 263) 1, none, none, []⟩]) .skip)) .skip)))))))))))))))))))))))))))))))
def u93 : RCode := (.seq (.reg [rI 0 (.mv (.t 3)) 55, rI 1 (.nc (.t 55)) 56, rI 2 (.fa (.t 56) 2) 57, rI 4 (.fa (.t 5) 4) 59, rI 3 (.ld none (.t 57)) 58, rI 5 (.ld none (.t 59)) 60, rI 6 (.bin .add (.k (.int .i64 1)) (.t 60)) 61, rI 7 (.bin .add (.t 58) (.t 61)) 62, rI 8 (.nc (.t 55)) 63, rI 9 (.fa (.t 63) 2) 64, ⟨10, .st (.t 64) (.t 62) 1, none, none, []⟩]) t93)
def r93 : RFun := ⟨266, [], (.seq (.reg [rI 0 (.mv (.t 0)) 8, rI 1 (.call 112 [.t 8]) 9, rI 2 (.mv (.t 9)) 2]) (.seq (.reg [rI 0 (.mv (.t 2)) 10, rI 1 (.call 113 [.t 10]) 11, rI 2 (.mv (.t 11)) 3]) (.seq (.seq (.reg [rI 0 (.mv (.t 3)) 12, rI 1 (.nc (.t 12)) 13, rI 2 (.fa (.t 13) 5) 14, rI 3 (.ld none (.t 14)) 15, rI 4 (.nt (.t 15)) 16, rI 5 (.mv (.t 16)) 17, ⟨6, .mv (.t 3), some 18, some (17, true), []⟩, ⟨7, .nc (.t 18), some 19, some (17, true), []⟩, ⟨8, .fa (.t 19) 2, some 20, some (17, true), []⟩, ⟨10, .mv (.t 3), some 22, some (17, true), []⟩, ⟨11, .nc (.t 22), some 23, some (17, true), []⟩, ⟨12, .fa (.t 23) 3, some 24, some (17, true), []⟩, ⟨9, .ld none (.t 20), some 21, some (17, true), []⟩, ⟨13, .ld none (.t 24), some 25, some (17, true), []⟩, ⟨14, .bin .eql (.t 21) (.t 25), some 26, some (17, true), []⟩, rI 15 (.pick (.t 17) (.t 26) (.k (.bool false))) 27]) (.ite (.t 27) (.reg [rI 0 (.mv (.t 3)) 28, rI 1 (.nc (.t 28)) 29, rI 2 (.fa (.t 29) 5) 30, ⟨3, .st (.t 30) (.k (.bool true)) 1, none, none, []⟩]) .skip)) (.seq (.seq (.reg [rI 0 (.mv (.t 3)) 31, rI 1 (.nc (.t 31)) 32, rI 2 (.fa (.t 32) 5) 33, rI 3 (.ld none (.t 33)) 34]) (.ite (.t 34) (.seq (.reg [rI 0 (.mv (.t 0)) 35, rI 1 (.call 114 [.t 35]) 36]) .ret) .skip)) (.seq (.reg [rI 0 (.mv (.t 3)) 37, rI 1 (.nc (.t 37)) 38, rI 2 (.fa (.t 38) 2) 39, rI 3 (.ld none (.t 39)) 40, rI 4 (.mv (.t 40)) 4]) (.seq (.reg [rI 0 (.mv (.t 0)) 41, rI 1 (.mv (.t 2)) 42, rI 2 (.call 111 [.t 41, .t 42]) 43, rI 3 (.mv (.t 4)) 44, rI 4 (.ias (.t 43) (.t 44) 5) 45, rI 5 (.ld (some 5) (.t 45)) 46, rI 6 (.alc [.int .i64 0, .int .i64 0, .int .i64 0, .int .i64 0, .int .i64 0]) 5, ⟨7, .st (.t 5) (.t 46) 5, none, none, []⟩]) (.seq (.seq (.reg [rI 0 (.fa (.t 5) 0) 47, rI 1 (.ld none (.t 47)) 48, rI 2 (.bin .neq (.t 48) (.k (.int .i64 14))) 49, rI 3 (.mv (.t 49)) 50, ⟨4, .mv (.t 0), some 51, some (50, true), []⟩, ⟨5, .call 115 [.t 51], some 52, some (50, true), []⟩, ⟨6, .nt (.t 52), some 53, some (50, true), []⟩, rI 7 (.pick (.t 50) (.t 53) (.k (.bool false))) 54]) (.ite (.t 54) .ret .skip)) u93)))))))⟩
theorem p93 : prog 93 = some r93 := by kernel_rfl



section
variable {E : IEnv} {L L' : Lay IR} {S S' : PM} {μ μ' : Mem}

theorem push_case (h : Rep E L S μ) {k : Nat} (hk : S.run = k) {t t' : PTk} (hget : S.tasks[k]? = some t) {op hd size : Int} (hp : t.push (block op hd size) = some t') :
  ∃ (L' : Lay IR) (μ1 μ2 : Mem), aapp 8 80 (.c (L.sc (.frames k) t.frames.length)) (.c (.slc (some (μ.next, 0)) 1 1)) (μ.new [.int .i64 op, .int .i64 hd, .int .i64 (IntKind.i64.wrap (hd + 1)), .int .i64 (IntKind.i64.wrap (IntKind.i64.wrap (hd + 1) + size)), .slc none 0 0, .bool false, .int .i64 0, .int .i64 0] 8) =
   some (.c (L'.sc (.frames k) (t.frames.length + 1)), μ1) ∧ μ1.st (L.id (.task k)) 12 [L'.sc (.frames k) (t.frames.length + 1)] = some μ2 ∧ After E L S μ (S.put S.run t') μ2 := by
 unfold PTk.push at hp
 split at hp
 ·rename_i hlen
  simp only [Option.some.injEq] at hp
  subst hp
  obtain ⟨L5, μ5, μ6, e6, e7, h6, s6, k6⟩ := h.push (f := block op hd size) hget rfl hlen
  rw [hk]
  exact ⟨L5, μ5, μ6, e6, e7, L5, h6, s6, k6⟩
 ·cases hp

theorem act_ok (h : Rep E L S μ) (hp : E.pend = none) (hroom : S.tasks.length < roomy) {k : Nat} (hk : S.run = k) {t : PTk} {f : PFr} {r : List PFr} {x : PStep} {hd : Int} {b : Nat}
  (hget : S.tasks[k]? = some t) (hf : t.frames = f :: r) (hfl : t.frames.length < roomy) (hx : XAt μ b x) (hfree : Free L b) (hbl : b < μ.next) (hs : PM.act E.plan S t f r x hd = some S')
  {fr : Fr} {Q : Fr → Mem → Prop} (f0 : fr 0 = pt E.m 0) (f2 : fr 2 = pt (L.id (.task k)) 0) (f3 : fr 3 = pt (L.id (.frames k)) (r.length * 8)) (f4 : fr 4 = .c (.int .i64 hd)) (f5 : fr 5 = pt b 0)
  (hQ : ∀ fr μ', After E L S μ S' μ' → Q fr μ') : R [.c t93] fr μ Q := by
 have hm := h.mfacts
 have htf := h.tfacts hget
 have hx' := hx
 unfold XAt at hx'
 obtain ⟨hx0, hx1, hx2, hx3, hx4, hx5⟩ := hx'
 unfold PM.act at hs
 simp only [rI, t93]
 simp only [w1, w2, ↓reduceIte, zA, zE, f2, f5, hx0]
 by_cases h1 : x.op = 1
 ·rw [if_pos h1] at hs
  obtain ⟨t', hr, hs⟩ := Option.map_eq_some_iff.1 hs
  subst hs
  obtain ⟨ha, μ1, e1, g1, k1⟩ := h.setReg hget hr
  simp only [w1, w2, zH, zI, ↓reduceIte, zA, h1, f5, hx1, hx3, viaa_in ha, e1]
  exact hQ _ _ ⟨L, by rw [hk]; exact g1, Stay.refl, k1⟩
 rw [if_neg h1] at hs
 simp only [w1, w2, ↓reduceIte, zA, zE, beq_ff h1]
 by_cases h2 : x.op = 2
 ·rw [if_pos h2] at hs
  obtain ⟨v, hv, hs⟩ := Option.bind_eq_some_iff.1 hs
  obtain ⟨t', hr, hs⟩ := Option.map_eq_some_iff.1 hs
  subst hs
  obtain ⟨hb, l1⟩ := h.ldreg hget hv
  obtain ⟨ha, μ1, e1, g1, k1⟩ := h.setReg hget hr
  unfold wr64 at e1
  simp only [w1, w2, zH, zI, ↓reduceIte, zA, h2, f5, hx1, hx2, hx3, viaa_in ha, viaa_in hb, l1, e1]
  exact hQ _ _ ⟨L, by rw [hk]; exact g1, Stay.refl, k1⟩
 rw [if_neg h2] at hs
 simp only [w1, w2, ↓reduceIte, zA, zE, beq_ff h2]
 by_cases h3 : x.op = 3
 ·rw [if_pos h3] at hs
  obtain ⟨v, hv, hs⟩ := Option.bind_eq_some_iff.1 hs
  obtain ⟨hb, l1⟩ := h.ldreg hget hv
  simp only [w1, w2, ↓reduceIte, zA, h3, f0, f5, hx1, viaa_in hb, l1]
  refine R_calls (l := [pt E.m 0, .c (.int .i64 1), .c (.int .i64 0), .c (.int .i64 v)]) (by simp only [w1, w2, ↓reduceIte, zA]) (tell_ok h hs) ?_
  rintro v' μ1 ha
  simp only [w1]
  exact hQ _ _ ha
 rw [if_neg h3] at hs
 simp only [w1, w2, ↓reduceIte, zA, zE, beq_ff h3]
 by_cases h4 : x.op = 4
 ·rw [if_pos h4] at hs
  obtain ⟨ta, tc, hts⟩ := h.has.scf (r := .tasks) (sz := 1) (n := S.tasks.length) (cs := cat (trow L) 0 S.tasks) rfl (by rw [cat_length (trow_len L)]) (by omega)
  rw [hts] at hm
  simp only [w1, w2, ↓reduceIte, zA, zE, h4, f0, hm]
  by_cases hl : S.tasks.length = 60
  ·rw [if_pos hl] at hs
   have hlb : ((S.tasks.length : Int) == 60) = true := beq_tt (by omega)
   simp only [w1, w2, ↓reduceIte, zA, zE, hlb, f0]
   refine R_calls (l := [pt E.m 0, .c (.int .i64 (-10))]) (by simp only [w1, w2, ↓reduceIte, zE]) (fail_ok h hs) ?_
   rintro v' μ1 ha
   simp only [w1]
   exact hQ _ _ ha
  ·rw [if_neg hl] at hs
   have hlb : ((S.tasks.length : Int) == 60) = false := beq_ff (by omega)
   obtain ⟨S1, hc, hs1⟩ := Option.bind_eq_some_iff.1 hs
   obtain ⟨t', hr, hs2⟩ := Option.map_eq_some_iff.1 hs1
   subst hs2
   simp only [w1, w2, ↓reduceIte, zA, hlb, f0, f5, hx1, hx2]
   refine R_callre (l := [pt E.m 0, .c (.int .i64 x.b)]) (by simp only [w1, w2, ↓reduceIte, zA]) (create_ok h hc) ?_
   rintro v μ1 ⟨rfl, L1, g1, s1, k1⟩
   refine ⟨by simp only [List.all_cons, List.all_nil, Bool.and_true, Re.holds, w1, ↓reduceIte, zA, (k1.ld hbl hfree).trans hx1, beq_self_eq_true], ?_⟩
   have hg1 : S1.tasks[k]? = some t := by
    rw [PM.create, if_pos hroom] at hc
    simp only [Option.some.injEq] at hc
    rw [← hc]
    show (S.tasks ++ _)[k]? = some t
    rw [List.getElem?_append_left (List.getElem?_eq_some_iff.1 hget).1]; exact hget
   have hwr : wr64 (S.tasks.length : Int) = S.tasks.length := by unfold wr64; unfold roomy at hroom; rw [small (by omega)]
   rw [hwr] at hr
   obtain ⟨ha, μ2, e2, g2, k2⟩ := g1.setReg hg1 hr
   rw [s1.2 k (List.getElem?_eq_some_iff.1 hget).1] at e2
   simp only [w1, w2, zH, zI, ↓reduceIte, zA, viaa_in ha, e2]
   exact hQ _ _ ⟨L1, by rw [hk]; exact g2, s1, k1.trans k2⟩
 rw [if_neg h4] at hs
 simp only [w1, w2, ↓reduceIte, zA, zE, beq_ff h4]
 by_cases h5 : x.op = 5
 ·rw [if_pos h5] at hs
  simp only [w1, w2, ↓reduceIte, zA, h5, f0, f5, hx5]
  refine R_calls (l := [pt E.m 0, .agg (xcells x)]) (by simp only [w1, w2, ↓reduceIte, zA]) (resume_ok h hp hroom hs) ?_
  rintro v' μ1 ha
  simp only [w1]
  exact hQ _ _ ha
 rw [if_neg h5] at hs
 simp only [w1, w2, ↓reduceIte, zA, zE, beq_ff h5]
 by_cases h6 : x.op = 6
 ·rw [if_pos h6] at hs
  simp only [w1, w2, ↓reduceIte, zA, h6, f0, f5, hx5]
  refine R_calls (l := [pt E.m 0, .agg (xcells x)]) (by simp only [w1, w2, ↓reduceIte, zA]) (yield_ok h hs) ?_
  rintro v' μ1 ha
  simp only [w1]
  exact hQ _ _ ha
 rw [if_neg h6] at hs
 simp only [w1, w2, ↓reduceIte, zA, zE, beq_ff h6]
 by_cases h7 : x.op = 7
 ·rw [if_pos h7] at hs
  simp only [w1, w2, ↓reduceIte, zA, h7, f0, f5, hx5]
  refine R_calls (l := [pt E.m 0, .agg (xcells x)]) (by simp only [w1, w2, ↓reduceIte, zA]) (giveUp_ok h hp hroom hs) ?_
  rintro v' μ1 ha
  simp only [w1]
  exact hQ _ _ ha
 rw [if_neg h7] at hs
 simp only [w1, w2, ↓reduceIte, zA, zE, beq_ff h7]
 by_cases h8 : x.op = 8
 ·rw [if_pos h8] at hs
  obtain ⟨n, hv, hs⟩ := Option.bind_eq_some_iff.1 hs
  obtain ⟨hb, l1⟩ := h.ldreg hget hv
  simp only [w1, w2, ↓reduceIte, zA, zE, h8, f0, f5, hx2, viaa_in hb, l1]
  by_cases ho : S.other n = true
  ·rw [if_pos ho] at hs
   obtain ⟨u, hu, hs⟩ := Option.bind_eq_some_iff.1 hs
   obtain ⟨t', hr, hs⟩ := Option.map_eq_some_iff.1 hs
   subst hs
   obtain ⟨m, rfl, hgu⟩ := idx_some hu
   obtain ⟨ha, μ1, e1, g1, k1⟩ := h.setReg hget hr
   refine R_calls (l := [pt E.m 0, .c (.int .i64 m)]) (by simp only [w1, w2, ↓reduceIte, zA]) (other_yes h hgu) ?_
   rintro v' μ1 ⟨rfl, rfl⟩
   have htu := h.tfacts hgu
   simp only [w1, w2, zH, zI, ↓reduceIte, zA, zE, aeq, f5, hx1, htu, viaa_in ha, e1]
   exact hQ _ _ ⟨L, by rw [hk]; exact g1, Stay.refl, k1⟩
  ·rw [if_neg ho] at hs
   refine R_calls (l := [pt E.m 0, .c (.int .i64 n)]) (by simp only [w1, w2, ↓reduceIte, zA]) (other_no h (by simpa using ho)) ?_
   rintro v' μ1 ⟨rfl, rfl⟩
   simp only [w1, w2, ↓reduceIte, zA, zE, aeq, Option.isNone_none, f0]
   refine R_calls (l := [pt E.m 0, .c (.int .i64 (-12))]) (by simp only [w1, w2, ↓reduceIte, zE]) (fail_ok h hs) ?_
   rintro v' μ1 ha
   simp only [w1]
   exact hQ _ _ ha
 rw [if_neg h8] at hs
 simp only [w1, w2, ↓reduceIte, zA, beq_ff h8]
 by_cases h9 : x.op = 9
 ·rw [if_pos h9] at hs
  obtain ⟨v, hv, hs⟩ := Option.bind_eq_some_iff.1 hs
  obtain ⟨hb, l1⟩ := h.ldreg hget hv
  simp only [w1, w2, ↓reduceIte, zA, h9, f0, f5, hx1, viaa_in hb, l1]
  refine R_calls (l := [pt E.m 0, .c (.int .i64 v)]) (by simp only [w1, w2, ↓reduceIte, zA]) (fail_ok h hs) ?_
  rintro v' μ1 ha
  simp only [w1]
  exact hQ _ _ ha
 rw [if_neg h9] at hs
 simp only [w1, w2, ↓reduceIte, zA, beq_ff h9]
 by_cases h10 : x.op = 10
 ·rw [if_pos h10] at hs
  obtain ⟨v, hv, hs⟩ := Option.map_eq_some_iff.1 hs
  subst hs
  obtain ⟨hb, l1⟩ := h.ldreg hget hv
  obtain ⟨μ4, e1, g2, k2⟩ := h.setTop hget hf (f' := { f with leaving := true }) (k := 5) (new := [.bool true]) rfl (by simp) rfl
  obtain ⟨μ5, e2, g3, k3⟩ := g2.setTop (put_at hget) rfl (f' := { f with leaving := true, way := 1 }) (k := 6) (new := [.int .i64 1]) rfl (by simp) rfl
  obtain ⟨μ6, e3, g4, k4⟩ := g3.setTop (put_at (put_at hget)) rfl (f' := { f with leaving := true, way := 1, num := v }) (k := 7) (new := [.int .i64 v]) rfl (by simp) rfl
  rw [put_put, put_put] at g4
  simp only [w1, w2, zH, zI, ↓reduceIte, zA, h10, f3, f5, hx1, viaa_in hb, l1, e1, e2, e3]
  exact hQ _ _ ⟨L, by rw [hk]; exact g4, Stay.refl, k2.trans (k3.trans k4)⟩
 rw [if_neg h10] at hs
 simp only [w1, w2, ↓reduceIte, zA, beq_ff h10]
 by_cases h13 : x.op = 13
 ·rw [if_pos h13] at hs
  split at hs
  ·rename_i hml
   simp only [Option.some.injEq] at hs
   subst hs
   obtain ⟨_, hrow, _⟩ := h.topAt hget hf
   have r4 := hrow 4 _ rfl
   obtain ⟨L1, μ1, μ2, e1, e2, g1, ag, k1⟩ := h.pushMet hget hf hd hml
   have hg1 := put_at (t' := { t with frames := { f with met := hd :: f.met } :: r }) hget
   have htf1 := g1.tfacts hg1
   obtain ⟨μ3, e3, g3, k3⟩ := g1.setTask (t' := { t with frames := { f with met := hd :: f.met } :: r, kept := wr64 (t.kept + 1) }) hg1 (o := 16) (new := [.int .i64 (wr64 (t.kept + 1))]) rfl (by simp) rfl (h.regs t (List.mem_of_getElem? hget))
   rw [put_put] at g3
   rw [(ag (.task k) (by intro hh; cases hh)).1] at e3 htf1
   unfold wr64 at e3
   simp only [w1, w2, zH, zI, ↓reduceIte, zA, h13, f2, f3, f4, r4, m2, fillc, wr, rep, zJ, zK, List.append_nil, e1, e2, htf1, e3]
   exact hQ _ _ ⟨L1, by rw [hk]; exact g3, ⟨⟨(ag _ (by intro hh; cases hh)).1, (ag _ (by intro hh; cases hh)).1⟩, fun i hi => (ag _ (by intro hh; cases hh)).1⟩, k1.trans k3⟩
  ·cases hs
 rw [if_neg h13] at hs
 simp only [w1, w2, ↓reduceIte, zA, beq_ff h13]
 by_cases h14 : x.op = 14
 ·rw [if_pos h14] at hs
  rw [hk] at hs
  simp only [w1, w2, ↓reduceIte, zA, h14, f0, f2, f4]
  refine R_calls (l := [pt E.m 0, pt (L.id (.task k)) 0, .c (.int .i64 hd)]) (by simp only [w1, w2, ↓reduceIte, zA]) (look_ok h hs) ?_
  rintro v' μ1 ha
  simp only [w1]
  exact hQ _ _ ha
 rw [if_neg h14] at hs
 simp only [w1, w2, ↓reduceIte, zA, beq_ff h14]
 by_cases h11 : x.op = 11
 ·rw [if_pos (.inl h11)] at hs
  obtain ⟨t', hpu, hs⟩ := Option.map_eq_some_iff.1 hs
  subst hs
  obtain ⟨L1, μ1, μ2, e1, e2, ha⟩ := push_case h hk hget hpu
  rw [h11] at e1
  simp only [w1, w2, zH, zI, ↓reduceIte, zA, zB, h11, f2, f4, f5, hx0, hx4, htf, m2, fillc, wr, rep, zJ, zB, zK, List.append_nil, e1, e2]
  exact hQ _ _ ha
 by_cases h12 : x.op = 12
 ·rw [if_pos (.inr h12)] at hs
  obtain ⟨t', hpu, hs⟩ := Option.map_eq_some_iff.1 hs
  subst hs
  obtain ⟨L1, μ1, μ2, e1, e2, ha⟩ := push_case h hk hget hpu
  rw [h12] at e1
  simp only [w1, w2, zH, zI, ↓reduceIte, zA, zB, zF, h12, f2, f4, f5, hx0, hx4, htf, m2, fillc, wr, rep, zJ, zB, zK, List.append_nil, e1, e2]
  exact hQ _ _ ha
 rw [if_neg (fun hh => hh.elim h11 h12)] at hs
 simp only [w1, w2, ↓reduceIte, zA, beq_ff h11, beq_ff h12]
 by_cases h15 : x.op = 15
 ·rw [if_pos h15] at hs
  obtain ⟨v, hv, hs⟩ := Option.bind_eq_some_iff.1 hs
  obtain ⟨hb, l1⟩ := h.ldreg hget hv
  by_cases hv0 : v = 0
  ·rw [if_neg (fun hh => hh hv0)] at hs
   simp only [Option.some.injEq] at hs
   subst hs
   have hvb : (v != 0) = false := by simp [hv0]
   simp only [w1, w2, ↓reduceIte, zA, h15, f5, hx1, viaa_in hb, l1, hvb]
   exact hQ _ _ ⟨L, h, Stay.refl, Keep.refl⟩
  ·rw [if_pos hv0] at hs
   obtain ⟨t', hpu, hs⟩ := Option.map_eq_some_iff.1 hs
   subst hs
   obtain ⟨L1, μ1, μ2, e1, e2, ha⟩ := push_case h hk hget hpu
   have hvb : (v != 0) = true := by simp [hv0]
   rw [h15] at e1
   simp only [w1, w2, zH, zI, ↓reduceIte, zA, zB, h15, f2, f4, f5, hx0, hx1, hx4, htf, viaa_in hb, l1, hvb, m2, fillc, wr, rep, zJ, zB, zK, List.append_nil, e1, e2]
   exact hQ _ _ ha
 rw [if_neg h15] at hs
 simp only [Option.some.injEq] at hs
 subst hs
 simp only [w1, beq_ff h15]
 exact hQ _ _ ⟨L, h, Stay.refl, Keep.refl⟩

theorem step_ok (h : Rep E L S μ) (hp : E.pend = none) (hroom : S.tasks.length < roomy) (hs : S.step E.plan = some S') : Ret 93 [pt E.m 0] μ fun v μ' => After E L S μ S' μ' := by
 unfold PM.step at hs
 obtain ⟨t, hn, hs1⟩ := Option.bind_eq_some_iff.1 hs
 obtain ⟨k, hk, hget, hfl, hnow⟩ := now_ok h hn
 cases hf : t.frames with
 | nil => rw [hf] at hs1; cases hs1
 | cons f r =>
 rw [hf] at hs1
 simp only at hs1
 obtain ⟨_, hrow, _⟩ := h.topAt hget hf
 have r5 := hrow 5 _ rfl
 have r2 := hrow 2 _ rfl
 have r3 := hrow 3 _ rfl
 refine Ret_of p93 (by simp [r93]) ?_
 simp only [rI, r93, frOf_1]
 simp only [w1, w2, ↓reduceIte]
 refine R_calls (l := [pt E.m 0]) (by simp only [w1, w2, ↓reduceIte]) hnow ?_
 rintro v μ0 ⟨rfl, rfl⟩
 simp only [w1, w2, ↓reduceIte]
 refine R_calls (l := [pt (L.id (.task k)) 0]) (by simp only [w1, w2, ↓reduceIte]) (top_ok h hget hf hfl) ?_
 rintro v μ1 ⟨rfl, rfl⟩
 simp only [w1, w2, ↓reduceIte, r5]
 by_cases hl : f.leaving = true
 ·rw [if_pos hl] at hs1
  simp only [w1, w2, ↓reduceIte, zA, hl, r5]
  refine R_calls (l := [pt E.m 0]) (by simp only [w1, w2, ↓reduceIte]) (leave_ok h hs1) ?_
  rintro v μ2 ha
  simp only [w1, w2, aRet, aRes, toCells]
  exact ⟨_, rfl, ha⟩
 rw [if_neg hl] at hs1
 have hl' : f.leaving = false := by simpa using hl
 simp only [w1, w2, ↓reduceIte, zA, hl', r2, r3]
 by_cases hpc : f.pc = f.fin
 ·rw [if_pos hpc] at hs1
  rw [hk] at hs1
  obtain ⟨μ2, e2, h2, k2⟩ := h.setTop hget hf (f' := { f with leaving := true }) (k := 5) (new := [.bool true]) rfl (by simp) rfl
  obtain ⟨_, hrow2, _⟩ := h2.topAt (put_at hget) rfl
  have q5 := hrow2 5 _ rfl
  simp only [w1, w2, zH, zI, ↓reduceIte, zA, beq_tt hpc, e2, q5]
  refine R_calls (l := [pt E.m 0]) (by simp only [w1, w2, ↓reduceIte]) (leave_ok h2 hs1) ?_
  rintro v μ3 ⟨L3, h3, s3, k3⟩
  simp only [w1, w2, aRet, aRes, toCells]
  exact ⟨_, rfl, L3, h3, s3.put, k2.trans k3⟩
 rw [if_neg hpc] at hs1
 obtain ⟨l, hsl, hs2⟩ := Option.bind_eq_some_iff.1 hs1
 obtain ⟨x, hx, hs3⟩ := Option.bind_eq_some_iff.1 hs2
 obtain ⟨c, hc, hst⟩ := steps_ok h hget hsl
 obtain ⟨j, hj, hjx⟩ := idx_some hx
 obtain ⟨b, o, e1, e2, e3, e4⟩ := h.stepAt hc hjx
 simp only [w1, w2, ↓reduceIte, zA, beq_ff hpc, r5, hl', r2]
 refine R_calls (l := [pt E.m 0, pt (L.id (.task k)) 0]) (by simp only [w1, w2, ↓reduceIte, zA]) hst ?_
 rintro v μ2 ⟨rfl, rfl⟩
 have es : (μ2.new [.int .i64 0, .int .i64 0, .int .i64 0, .int .i64 0, .int .i64 0] 0).st μ2.next 0 [.int .i64 x.op, .int .i64 x.a, .int .i64 x.b, .int .i64 x.n, .int .i64 x.size] = some (μ2.new [.int .i64 x.op, .int .i64 x.a, .int .i64 x.b, .int .i64 x.n, .int .i64 x.size] 0) := new_st0 rfl
 have h3 : Rep E L S (μ2.new (xcells x) 0) := h.tmp
 have hx3 : XAt (μ2.new (xcells x) 0) μ2.next x := XAt.new
 have hf3 : Free L μ2.next := h.free (Nat.le_refl _)
 have hb3 : μ2.next < (μ2.new (xcells x) 0).next := Nat.lt_succ_self _
 have k3 : Keep L μ2 L (μ2.new (xcells x) 0) := Keep.tmp
 simp only [xcells] at h3 hx3 hb3 k3
 simp only [scells] at e3
 rw [← hj] at e1
 simp only [w1, w2, zH, zI, ↓reduceIte, zA, zB, e1, e3, es]
 generalize μ2.new [.int .i64 x.op, .int .i64 x.a, .int .i64 x.b, .int .i64 x.n, .int .i64 x.size] 0 = μ3 at *
 have hx3' := hx3
 unfold XAt at hx3'
 simp only [w1, w2, hx3']
 have tl : ∀ (S1 : PM) (μ4 : Mem) (fr : Fr) (s : List It), Rep E L S1 μ4 → Keep L μ3 L μ4 → S1.run = k → S1.tasks = S.tasks →
   PM.act E.plan (S1.put k { t with frames := { f with pc := wr64 (f.pc + wr64 (1 + x.size)) } :: r }) { t with frames := { f with pc := wr64 (f.pc + wr64 (1 + x.size)) } :: r }
    { f with pc := wr64 (f.pc + wr64 (1 + x.size)) } r x f.pc = some S' →
   fr 0 = pt E.m 0 → fr 2 = pt (L.id (.task k)) 0 → fr 3 = pt (L.id (.frames k)) (r.length * 8) → fr 4 = .c (.int .i64 f.pc) → fr 5 = pt μ2.next 0 →
   R [.c u93] fr μ4 (fun fr' μ1 => ∃ v, aRet fr' μ1 [] = some v ∧ After E L S μ2 S' μ1) := by
  intro S1 μ4 fr s h4 k4 hr1 htk ha f0 f2 f3 f4 f5
  have hget1 : S1.tasks[k]? = some t := by rw [htk]; exact hget
  obtain ⟨_, hrow4, _⟩ := h4.topAt hget1 hf
  have q2 := hrow4 2 _ rfl
  have hx4 := hx3.keep k4 hb3 hf3
  have hf4 := k4.free hb3 hf3
  have hb4 : μ2.next < μ4.next := Nat.lt_of_lt_of_le hb3 k4.next
  obtain ⟨μ5, e5, h5, k5⟩ := h4.setTop hget1 hf (f' := { f with pc := wr64 (f.pc + wr64 (1 + x.size)) }) (k := 2) (new := [.int .i64 (wr64 (f.pc + wr64 (1 + x.size)))]) rfl (by simp) rfl
  have hx4' := hx4
  unfold XAt at hx4'
  unfold wr64 at e5
  simp only [rI, u93]
  simp only [w1, w2, zH, zI, ↓reduceIte, zA, f3, f5, q2, hx4', e5]
  refine act_ok h5 hp (by simp only [PM.put, List.length_set, htk]; exact hroom) (k := k) hr1 (put_at hget1) rfl (by rw [hf] at hfl; exact hfl) (hx4.keep k5 hb4 hf4) (k5.free hb4 hf4) (Nat.lt_of_lt_of_le hb4 k5.next) ha ?_ ?_ ?_ ?_ ?_ ?_
  ·simp only [w1, ↓reduceIte, zA, f0]
  ·simp only [w1, ↓reduceIte, zA, f2]
  ·simp only [w1, ↓reduceIte, zA, f3]
  ·simp only [w1, ↓reduceIte, zA, f4]
  ·simp only [w1, ↓reduceIte, zA, f5]
  ·intro fr' μ6 ⟨L6, h6, s6, k6⟩
   exact ⟨_, rfl, L6, h6, s6.put.cast (by rw [htk]), k3.trans (k4.trans (k5.trans k6))⟩
 by_cases h14 : x.op = 14
 ·rw [if_pos h14, hk] at hs3
  have hb : (x.op != 14) = false := by simp [h14]
  simp only [w1, ↓reduceIte, zA, hb]
  refine tl S μ3 _ [] h3 Keep.refl hk rfl hs3 ?_ ?_ ?_ ?_ ?_ <;> simp only [w1, ↓reduceIte, zA]
 ·rw [if_neg h14] at hs3
  have hb : (x.op != 14) = true := by simp [h14]
  simp only [w1, ↓reduceIte, zA, hb]
  refine R_calls (l := [pt E.m 0]) (by simp only [w1, w2, ↓reduceIte]) (tick_ok h3) ?_
  rintro v μ4 ⟨rfl, h4, k4⟩
  by_cases ht : S.tick.1 = false
  ·rw [if_pos ht] at hs3
   simp only [Option.some.injEq] at hs3
   subst hs3
   simp only [w1, w2, ↓reduceIte, zA, ht, aRet, aRes, toCells]
   exact ⟨_, rfl, L, h4, Stay.refl, k3.trans k4⟩
  ·have ht' : S.tick.1 = true := by simpa using ht
   rw [if_neg ht, hk] at hs3
   simp only [w1, ↓reduceIte, zA, ht']
   refine tl S.tick.2 μ4 _ [] h4 k4 ?_ tick_tasks hs3 ?_ ?_ ?_ ?_ ?_
   ·rw [← hk]; unfold PM.tick; split <;> rfl
   all_goals simp only [w1, ↓reduceIte, zA]
end
end Go.Proofs.Ytibmnlijoeppaaa
