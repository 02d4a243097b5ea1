/- Calls of the program on two small modules: what they give. -/
import Derived.Test.YthelmobipjekjaaGreatMa
set_option linter.unusedVariables false
set_option maxRecDepth 1000000
namespace Go.Proofs.YthelmobipjekjaaGreat.Ev
open Go Go.RowKit
def eV : Ent := { f := 38, args := [.agg ⟨[.slice none 0 0, .slice none 0 0, .slice (some ⟨0, 0, none⟩) 1 (sym + 0)]⟩], hs := [(0, 56, [.string ⟨⟨[116, 119, 111]⟩⟩, .slice (some ⟨1, 0, none⟩) 1 (sym + 0), .slice (some ⟨2, 0, none⟩) 1 (sym + 0), .int .i64 (1), .int .i64 (2), .slice (some ⟨3, 0, none⟩) 11 (sym + 0)]), (1, 3, [.int .i64 (2)]), (2, 3, [.int .i64 (2)]), (3, 5, [.int .u8 (7), .int .u8 (0), .int .u8 (0), .int .u8 (2), .int .u8 (2), .int .u8 (0), .int .u8 (0), .int .u8 (0), .int .u8 (13), .int .u8 (2), .int .u8 (51)])], N := 4, v := .tuple ⟨[.int .i64 (0), .int .i64 (0), .int .i64 (0)]⟩ }
def eX : Ent := { f := 38, args := [.agg ⟨[.slice none 0 0, .slice none 0 0, .slice (some ⟨0, 0, none⟩) 1 (sym + 0)]⟩], hs := [(0, 56, [.string ⟨⟨[]⟩⟩, .slice none 0 0, .slice none 0 0, .int .i64 (0), .int .i64 (0), .slice (some ⟨1, 0, none⟩) 1 (sym + 0)]), (1, 5, [.int .u8 (9)])], N := 2, v := .tuple ⟨[.int .i64 (0), .int .i64 (0), .int .i64 (210)]⟩ }
def eG : EntF := { f := 67, args := [.slice (some ⟨0, 0, none⟩) 22 (sym + 0)], hs := [(0, 5, [.int .u8 (84), .int .u8 (82), .int .u8 (77), .int .u8 (1), .int .u8 (10), .int .u8 (0), .int .u8 (0), .int .u8 (0), .int .u8 (0), .int .u8 (0), .int .u8 (1), .int .u8 (0), .int .u8 (0), .int .u8 (0), .int .u8 (0), .int .u8 (0), .int .u8 (1), .int .u8 (9), .int .u8 (13), .int .u8 (225), .int .u8 (231), .int .u8 (79)])], N := 1, v := .tuple ⟨[.agg ⟨[.slice none 0 0, .slice none 0 0, .slice (some ⟨1, 0, none⟩) 1 (sym + 0)]⟩, .int .i64 (0), .int .i64 (0)]⟩, outs := [(56, [.string ⟨⟨[]⟩⟩, .slice none 0 0, .slice none 0 0, .int .i64 (0), .int .i64 (0), .slice (some ⟨2, 0, none⟩) 1 (sym + 0)]), (5, [.int .u8 (9)])] }
def eF : EntF := { f := 67, args := [.slice (some ⟨0, 0, none⟩) 37 (sym + 0)], hs := [(0, 5, [.int .u8 (84), .int .u8 (82), .int .u8 (77), .int .u8 (1), .int .u8 (25), .int .u8 (0), .int .u8 (0), .int .u8 (0), .int .u8 (0), .int .u8 (0), .int .u8 (1), .int .u8 (3), .int .u8 (116), .int .u8 (119), .int .u8 (111), .int .u8 (1), .int .u8 (2), .int .u8 (1), .int .u8 (2), .int .u8 (1), .int .u8 (2), .int .u8 (11), .int .u8 (7), .int .u8 (0), .int .u8 (0), .int .u8 (2), .int .u8 (2), .int .u8 (0), .int .u8 (0), .int .u8 (0), .int .u8 (13), .int .u8 (2), .int .u8 (51), .int .u8 (57), .int .u8 (163), .int .u8 (155), .int .u8 (191)])], N := 1, v := .tuple ⟨[.agg ⟨[.slice none 0 0, .slice none 0 0, .slice (some ⟨1, 0, none⟩) 1 (sym + 0)]⟩, .int .i64 (0), .int .i64 (0)]⟩, outs := [(56, [.string ⟨⟨[116, 119, 111]⟩⟩, .slice (some ⟨2, 0, none⟩) 1 (sym + 0), .slice (some ⟨3, 0, none⟩) 1 (sym + 0), .int .i64 (1), .int .i64 (2), .slice (some ⟨4, 0, none⟩) 11 (sym + 0)]), (3, [.int .i64 (2)]), (3, [.int .i64 (2)]), (5, [.int .u8 (7), .int .u8 (0), .int .u8 (0), .int .u8 (2), .int .u8 (2), .int .u8 (0), .int .u8 (0), .int .u8 (0), .int .u8 (13), .int .u8 (2), .int .u8 (51)])] }
def eS2 : Ent := { f := 71, args := [.agg ⟨[.slice none 0 0, .slice none 0 0, .slice (some ⟨0, 0, none⟩) 1 (sym + 0)]⟩], hs := [(0, 56, [.string ⟨⟨[116, 119, 111]⟩⟩, .slice (some ⟨1, 0, none⟩) 1 (sym + 0), .slice (some ⟨2, 0, none⟩) 1 (sym + 0), .int .i64 (1), .int .i64 (2), .slice (some ⟨3, 0, none⟩) 11 (sym + 0)]), (1, 3, [.int .i64 (2)]), (2, 3, [.int .i64 (2)]), (3, 5, [.int .u8 (7), .int .u8 (0), .int .u8 (0), .int .u8 (2), .int .u8 (2), .int .u8 (0), .int .u8 (0), .int .u8 (0), .int .u8 (13), .int .u8 (2), .int .u8 (51)])], N := 4, v := .int .i64 (0) }
def eT2 : Ent := { f := 71, args := [.agg ⟨[.slice none 0 0, .slice none 0 0, .slice (some ⟨0, 0, none⟩) 1 (sym + 0)]⟩], hs := [(0, 56, [.string ⟨⟨[]⟩⟩, .slice none 0 0, .slice none 0 0, .int .i64 (0), .int .i64 (0), .slice (some ⟨1, 0, none⟩) 1 (sym + 0)]), (1, 5, [.int .u8 (9)])], N := 2, v := .int .i64 (0) }
def eS1 : Ent := { f := 71, args := [.agg ⟨[.slice none 0 0, .slice none 0 0, .slice (some ⟨0, 0, none⟩) 1 1]⟩], hs := [(0, 56, [.string ⟨⟨[116, 119, 111]⟩⟩, .slice (some ⟨1, 0, none⟩) 1 1, .slice (some ⟨2, 0, none⟩) 1 1, .int .i64 (1), .int .i64 (2), .slice (some ⟨3, 0, none⟩) 11 11]), (1, 3, [.int .i64 (2)]), (2, 3, [.int .i64 (2)]), (3, 5, [.int .u8 (7), .int .u8 (0), .int .u8 (0), .int .u8 (2), .int .u8 (2), .int .u8 (0), .int .u8 (0), .int .u8 (0), .int .u8 (13), .int .u8 (2), .int .u8 (51)])], N := 4, v := .int .i64 (0) }
def eT1 : Ent := { f := 71, args := [.agg ⟨[.slice none 0 0, .slice none 0 0, .slice (some ⟨0, 0, none⟩) 1 1]⟩], hs := [(0, 56, [.string ⟨⟨[]⟩⟩, .slice none 0 0, .slice none 0 0, .int .i64 (0), .int .i64 (0), .slice (some ⟨1, 0, none⟩) 1 1]), (1, 5, [.int .u8 (9)])], N := 2, v := .int .i64 (0) }
def eI : Ent := { f := 76, args := [.agg ⟨[.slice none 0 0, .slice none 0 0, .slice (some ⟨0, 0, none⟩) 1 (sym + 0)]⟩], hs := [(0, 56, [.string ⟨⟨[116, 119, 111]⟩⟩, .slice (some ⟨1, 0, none⟩) 1 (sym + 0), .slice (some ⟨2, 0, none⟩) 1 (sym + 0), .int .i64 (1), .int .i64 (2), .slice (some ⟨3, 0, none⟩) 11 (sym + 0)]), (1, 3, [.int .i64 (2)]), (2, 3, [.int .i64 (2)]), (3, 5, [.int .u8 (7), .int .u8 (0), .int .u8 (0), .int .u8 (2), .int .u8 (2), .int .u8 (0), .int .u8 (0), .int .u8 (0), .int .u8 (13), .int .u8 (2), .int .u8 (51)])], N := 4, v := .int .i64 (0) }
def eJ : Ent := { f := 76, args := [.agg ⟨[.slice none 0 0, .slice none 0 0, .slice (some ⟨0, 0, none⟩) 1 (sym + 0)]⟩], hs := [(0, 56, [.string ⟨⟨[]⟩⟩, .slice none 0 0, .slice none 0 0, .int .i64 (0), .int .i64 (0), .slice (some ⟨1, 0, none⟩) 1 (sym + 0)]), (1, 5, [.int .u8 (9)])], N := 2, v := .int .i64 (0) }
theorem eS1_ran : entRun (call Tryz.prog (orc noO) 1000000) eS1 = true := by kernel_rfl
theorem eS1_ok : CallOK Tryz.prog (entO eS1) := ent_ok (orc_call noO_ok noO_n) eS1_ran
theorem eS2_ran : entRun (call Tryz.prog (orc noO) 1000000) eS2 = true := by kernel_rfl
theorem eS2_ok : CallOK Tryz.prog (entO eS2) := ent_ok (orc_call noO_ok noO_n) eS2_ran
theorem eT1_ran : entRun (call Tryz.prog (orc noO) 1000000) eT1 = true := by kernel_rfl
theorem eT1_ok : CallOK Tryz.prog (entO eT1) := ent_ok (orc_call noO_ok noO_n) eT1_ran
theorem eT2_ran : entRun (call Tryz.prog (orc noO) 1000000) eT2 = true := by kernel_rfl
theorem eT2_ok : CallOK Tryz.prog (entO eT2) := ent_ok (orc_call noO_ok noO_n) eT2_ran
noncomputable def kS : CallF := (orO (entO eS1) (orO (entO eS2) (orO (entO eT1) (orO (entO eT2) noO))))
theorem kS_ok : CallOK Tryz.prog kS := (orO_ok eS1_ok (orO_ok eS2_ok (orO_ok eT1_ok (orO_ok eT2_ok noO_ok))))
theorem kS_n : CallN kS := (orO_n entO_n (orO_n entO_n (orO_n entO_n (orO_n entO_n noO_n))))
theorem eI_ran : entRun (call Tryz.prog (orc kS) 1000000) eI = true := by kernel_rfl
theorem eI_ok : CallOK Tryz.prog (entO eI) := ent_ok (orc_call kS_ok kS_n) eI_ran
theorem eJ_ran : entRun (call Tryz.prog (orc kS) 1000000) eJ = true := by kernel_rfl
theorem eJ_ok : CallOK Tryz.prog (entO eJ) := ent_ok (orc_call kS_ok kS_n) eJ_ran
noncomputable def kI : CallF := (orO (entO eI) (orO (entO eJ) kS))
theorem kI_ok : CallOK Tryz.prog kI := (orO_ok eI_ok (orO_ok eJ_ok kS_ok))
theorem kI_n : CallN kI := (orO_n entO_n (orO_n entO_n kS_n))
theorem eV_ran : entRun (call Tryz.prog (orc kI) 1000000) eV = true := by kernel_rfl
theorem eV_ok : CallOK Tryz.prog (entO eV) := ent_ok (orc_call kI_ok kI_n) eV_ran
theorem eX_ran : entRun (call Tryz.prog (orc kI) 1000000) eX = true := by kernel_rfl
theorem eX_ok : CallOK Tryz.prog (entO eX) := ent_ok (orc_call kI_ok kI_n) eX_ran
noncomputable def kV : CallF := (orO (entO eV) (orO (entO eX) kI))
theorem kV_ok : CallOK Tryz.prog kV := (orO_ok eV_ok (orO_ok eX_ok kI_ok))
theorem kV_n : CallN kV := (orO_n entO_n (orO_n entO_n kI_n))
end Go.Proofs.YthelmobipjekjaaGreat.Ev
