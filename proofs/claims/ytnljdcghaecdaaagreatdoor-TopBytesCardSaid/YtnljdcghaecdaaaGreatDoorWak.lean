/-
  The house wakes.
-/
import Derived.Test.YtnljdcghaecdaaaGreatDoorPrs
import Derived.Test.YtnljdcghaecdaaaGreatDoorTex
/-
  The house's own text: what it reads as; its check and its print.
-/
namespace Go.Proofs.YtnljdcghaecdaaaGreatDoor
open Go.RowKit Go.Lib Go.Maps
attribute [local go_sem] Oper.semAt_some

def wakeM : List MethD := [⟨⟨#[116]⟩, ⟨#[79]⟩, 3, ⟨#[103, 105, 118, 101]⟩, ⟨#[117]⟩⟩, ⟨⟨#[117]⟩, ⟨#[79]⟩, 1, ⟨#[116, 97, 107, 101]⟩, ⟨#[]⟩⟩]
def wakeP : List StepD := [⟨⟨#[83]⟩, ⟨#[116]⟩, 1⟩]
/-- The schema of the house's text; the values are where its lists lie. -/
def wakeS (a b fv rv mv vv sv gv : Value) : SchD := ⟨⟨#[109]⟩, [⟨⟨#[79]⟩, false, [⟨⟨#[97, 99, 99, 111, 117, 110, 116]⟩, [⟨4, ⟨#[]⟩⟩], a⟩, ⟨⟨#[97, 109, 111, 117, 110, 116]⟩, [⟨3, ⟨#[]⟩⟩], b⟩], fv⟩], rv, [⟨⟨#[83]⟩, wakeM, mv⟩], vv, [⟨⟨#[103]⟩, ⟨#[79]⟩, wakeP, sv⟩], gv⟩
abbrev wv : Value := .bool false
theorem wake_check (a b fv rv mv vv sv gv : Value) : checkB (wakeS a b fv rv mv vv sv gv) = true := by kernel_rfl
theorem wake_len (a b fv rv mv vv sv gv : Value) : (textT (wakeS a b fv rv mv vv sv gv)).length ≤ 80000 := by
  have e : (textT (wakeS a b fv rv mv vv sv gv)).length = (textT (wakeS wv wv wv wv wv wv wv wv)).length := by kernel_rfl
  rw [e]
  decide +kernel
theorem wake_long (a b fv rv mv vv sv gv : Value) : longN (joinS (textT (wakeS a b fv rv mv vv sv gv))) = longN (joinS (textT (wakeS wv wv wv wv wv wv wv wv))) := by kernel_rfl
theorem wake_long0 : (longN (joinS (textT (wakeS wv wv wv wv wv wv wv wv))) != 0) = true := by kernel_rfl
theorem wake_join (a b fv rv mv vv sv gv : Value) : (joinL (textT (wakeS a b fv rv mv vv sv gv))).length ≤ 65536 := by
  have e : (joinL (textT (wakeS a b fv rv mv vv sv gv))).length = (joinL (textT (wakeS wv wv wv wv wv wv wv wv))).length := by kernel_rfl
  rw [e]
  decide +kernel
end Go.Proofs.YtnljdcghaecdaaaGreatDoor
/-
  The house's own text read.
-/
namespace Go.Proofs.YtnljdcghaecdaaaGreatDoor
open Go.RowKit Go.Lib Go.Maps
attribute [local go_sem] Oper.semAt_some

set_option maxRecDepth 100000 in
theorem wake_F : Runs FK [(⟨1, ⟨#[97, 99, 99, 111, 117, 110, 116]⟩, 0, 21⟩ : TokD), (⟨3, ⟨#[58]⟩, 0, 28⟩ : TokD), (⟨1, ⟨#[116, 101, 120, 116]⟩, 0, 30⟩ : TokD), (⟨3, ⟨#[59]⟩, 0, 34⟩ : TokD), (⟨1, ⟨#[97, 109, 111, 117, 110, 116]⟩, 0, 36⟩ : TokD), (⟨3, ⟨#[58]⟩, 0, 42⟩ : TokD), (⟨1, ⟨#[105, 110, 116]⟩, 0, 44⟩ : TokD), (⟨3, ⟨#[59]⟩, 0, 47⟩ : TokD), (⟨3, ⟨#[125]⟩, 0, 49⟩ : TokD), (⟨1, ⟨#[115, 101, 114, 118, 105, 99, 101]⟩, 0, 51⟩ : TokD), (⟨1, ⟨#[83]⟩, 0, 59⟩ : TokD), (⟨3, ⟨#[123]⟩, 0, 61⟩ : TokD), (⟨1, ⟨#[103, 105, 118, 101]⟩, 0, 63⟩ : TokD), (⟨1, ⟨#[116]⟩, 0, 68⟩ : TokD), (⟨3, ⟨#[40]⟩, 0, 69⟩ : TokD), (⟨1, ⟨#[79]⟩, 0, 70⟩ : TokD), (⟨3, ⟨#[41]⟩, 0, 71⟩ : TokD), (⟨3, ⟨#[45, 62]⟩, 0, 73⟩ : TokD), (⟨1, ⟨#[105, 110, 116]⟩, 0, 76⟩ : TokD), (⟨1, ⟨#[117, 110, 100, 111]⟩, 0, 80⟩ : TokD), (⟨1, ⟨#[117]⟩, 0, 85⟩ : TokD), (⟨3, ⟨#[59]⟩, 0, 86⟩ : TokD), (⟨1, ⟨#[116, 97, 107, 101]⟩, 0, 88⟩ : TokD), (⟨1, ⟨#[117]⟩, 0, 93⟩ : TokD), (⟨3, ⟨#[40]⟩, 0, 94⟩ : TokD), (⟨1, ⟨#[79]⟩, 0, 95⟩ : TokD), (⟨3, ⟨#[41]⟩, 0, 96⟩ : TokD), (⟨3, ⟨#[45, 62]⟩, 0, 98⟩ : TokD), (⟨1, ⟨#[110, 111, 110, 101]⟩, 0, 101⟩ : TokD), (⟨3, ⟨#[59]⟩, 0, 105⟩ : TokD), (⟨3, ⟨#[125]⟩, 0, 107⟩ : TokD), (⟨1, ⟨#[115, 97, 103, 97]⟩, 0, 109⟩ : TokD), (⟨1, ⟨#[103]⟩, 0, 114⟩ : TokD), (⟨3, ⟨#[40]⟩, 0, 115⟩ : TokD), (⟨1, ⟨#[79]⟩, 0, 116⟩ : TokD), (⟨3, ⟨#[41]⟩, 0, 117⟩ : TokD), (⟨3, ⟨#[123]⟩, 0, 119⟩ : TokD), (⟨1, ⟨#[100, 111]⟩, 0, 121⟩ : TokD), (⟨1, ⟨#[83]⟩, 0, 124⟩ : TokD), (⟨3, ⟨#[46]⟩, 0, 125⟩ : TokD), (⟨1, ⟨#[116]⟩, 0, 126⟩ : TokD), (⟨1, ⟨#[97, 116]⟩, 0, 128⟩ : TokD), (⟨2, ⟨#[49]⟩, 1, 131⟩ : TokD), (⟨3, ⟨#[59]⟩, 0, 132⟩ : TokD), (⟨3, ⟨#[125]⟩, 0, 134⟩ : TokD)] [(⟨#[97, 99, 99, 111, 117, 110, 116]⟩, 4), (⟨#[97, 109, 111, 117, 110, 116]⟩, 3)] [(⟨1, ⟨#[115, 101, 114, 118, 105, 99, 101]⟩, 0, 51⟩ : TokD), (⟨1, ⟨#[83]⟩, 0, 59⟩ : TokD), (⟨3, ⟨#[123]⟩, 0, 61⟩ : TokD), (⟨1, ⟨#[103, 105, 118, 101]⟩, 0, 63⟩ : TokD), (⟨1, ⟨#[116]⟩, 0, 68⟩ : TokD), (⟨3, ⟨#[40]⟩, 0, 69⟩ : TokD), (⟨1, ⟨#[79]⟩, 0, 70⟩ : TokD), (⟨3, ⟨#[41]⟩, 0, 71⟩ : TokD), (⟨3, ⟨#[45, 62]⟩, 0, 73⟩ : TokD), (⟨1, ⟨#[105, 110, 116]⟩, 0, 76⟩ : TokD), (⟨1, ⟨#[117, 110, 100, 111]⟩, 0, 80⟩ : TokD), (⟨1, ⟨#[117]⟩, 0, 85⟩ : TokD), (⟨3, ⟨#[59]⟩, 0, 86⟩ : TokD), (⟨1, ⟨#[116, 97, 107, 101]⟩, 0, 88⟩ : TokD), (⟨1, ⟨#[117]⟩, 0, 93⟩ : TokD), (⟨3, ⟨#[40]⟩, 0, 94⟩ : TokD), (⟨1, ⟨#[79]⟩, 0, 95⟩ : TokD), (⟨3, ⟨#[41]⟩, 0, 96⟩ : TokD), (⟨3, ⟨#[45, 62]⟩, 0, 98⟩ : TokD), (⟨1, ⟨#[110, 111, 110, 101]⟩, 0, 101⟩ : TokD), (⟨3, ⟨#[59]⟩, 0, 105⟩ : TokD), (⟨3, ⟨#[125]⟩, 0, 107⟩ : TokD), (⟨1, ⟨#[115, 97, 103, 97]⟩, 0, 109⟩ : TokD), (⟨1, ⟨#[103]⟩, 0, 114⟩ : TokD), (⟨3, ⟨#[40]⟩, 0, 115⟩ : TokD), (⟨1, ⟨#[79]⟩, 0, 116⟩ : TokD), (⟨3, ⟨#[41]⟩, 0, 117⟩ : TokD), (⟨3, ⟨#[123]⟩, 0, 119⟩ : TokD), (⟨1, ⟨#[100, 111]⟩, 0, 121⟩ : TokD), (⟨1, ⟨#[83]⟩, 0, 124⟩ : TokD), (⟨3, ⟨#[46]⟩, 0, 125⟩ : TokD), (⟨1, ⟨#[116]⟩, 0, 126⟩ : TokD), (⟨1, ⟨#[97, 116]⟩, 0, 128⟩ : TokD), (⟨2, ⟨#[49]⟩, 1, 131⟩ : TokD), (⟨3, ⟨#[59]⟩, 0, 132⟩ : TokD), (⟨3, ⟨#[125]⟩, 0, 134⟩ : TokD)] :=
  .cons (ks := [(⟨1, ⟨#[97, 99, 99, 111, 117, 110, 116]⟩, 0, 21⟩ : TokD), (⟨3, ⟨#[58]⟩, 0, 28⟩ : TokD), (⟨1, ⟨#[116, 101, 120, 116]⟩, 0, 30⟩ : TokD), (⟨3, ⟨#[59]⟩, 0, 34⟩ : TokD)]) ⟨(⟨1, ⟨#[97, 99, 99, 111, 117, 110, 116]⟩, 0, 21⟩ : TokD), (⟨3, ⟨#[58]⟩, 0, 28⟩ : TokD), (⟨1, ⟨#[116, 101, 120, 116]⟩, 0, 30⟩ : TokD), (⟨3, ⟨#[59]⟩, 0, 34⟩ : TokD), rfl, rfl, ⟨by decide, by decide⟩, ⟨rfl, by kernel_rfl⟩, ⟨by decide, rfl⟩, rfl, end_text, by decide, by decide, by decide, ⟨by decide, rfl⟩⟩ (.cons (ks := [(⟨1, ⟨#[97, 109, 111, 117, 110, 116]⟩, 0, 36⟩ : TokD), (⟨3, ⟨#[58]⟩, 0, 42⟩ : TokD), (⟨1, ⟨#[105, 110, 116]⟩, 0, 44⟩ : TokD), (⟨3, ⟨#[59]⟩, 0, 47⟩ : TokD)]) ⟨(⟨1, ⟨#[97, 109, 111, 117, 110, 116]⟩, 0, 36⟩ : TokD), (⟨3, ⟨#[58]⟩, 0, 42⟩ : TokD), (⟨1, ⟨#[105, 110, 116]⟩, 0, 44⟩ : TokD), (⟨3, ⟨#[59]⟩, 0, 47⟩ : TokD), rfl, rfl, ⟨by decide, by decide⟩, ⟨rfl, by kernel_rfl⟩, ⟨by decide, rfl⟩, rfl, end_int, by decide, by decide, by decide, ⟨by decide, rfl⟩⟩ (.nil ⟨by decide, rfl⟩))
set_option maxRecDepth 100000 in
theorem wake_M : Runs MK [(⟨1, ⟨#[103, 105, 118, 101]⟩, 0, 63⟩ : TokD), (⟨1, ⟨#[116]⟩, 0, 68⟩ : TokD), (⟨3, ⟨#[40]⟩, 0, 69⟩ : TokD), (⟨1, ⟨#[79]⟩, 0, 70⟩ : TokD), (⟨3, ⟨#[41]⟩, 0, 71⟩ : TokD), (⟨3, ⟨#[45, 62]⟩, 0, 73⟩ : TokD), (⟨1, ⟨#[105, 110, 116]⟩, 0, 76⟩ : TokD), (⟨1, ⟨#[117, 110, 100, 111]⟩, 0, 80⟩ : TokD), (⟨1, ⟨#[117]⟩, 0, 85⟩ : TokD), (⟨3, ⟨#[59]⟩, 0, 86⟩ : TokD), (⟨1, ⟨#[116, 97, 107, 101]⟩, 0, 88⟩ : TokD), (⟨1, ⟨#[117]⟩, 0, 93⟩ : TokD), (⟨3, ⟨#[40]⟩, 0, 94⟩ : TokD), (⟨1, ⟨#[79]⟩, 0, 95⟩ : TokD), (⟨3, ⟨#[41]⟩, 0, 96⟩ : TokD), (⟨3, ⟨#[45, 62]⟩, 0, 98⟩ : TokD), (⟨1, ⟨#[110, 111, 110, 101]⟩, 0, 101⟩ : TokD), (⟨3, ⟨#[59]⟩, 0, 105⟩ : TokD), (⟨3, ⟨#[125]⟩, 0, 107⟩ : TokD), (⟨1, ⟨#[115, 97, 103, 97]⟩, 0, 109⟩ : TokD), (⟨1, ⟨#[103]⟩, 0, 114⟩ : TokD), (⟨3, ⟨#[40]⟩, 0, 115⟩ : TokD), (⟨1, ⟨#[79]⟩, 0, 116⟩ : TokD), (⟨3, ⟨#[41]⟩, 0, 117⟩ : TokD), (⟨3, ⟨#[123]⟩, 0, 119⟩ : TokD), (⟨1, ⟨#[100, 111]⟩, 0, 121⟩ : TokD), (⟨1, ⟨#[83]⟩, 0, 124⟩ : TokD), (⟨3, ⟨#[46]⟩, 0, 125⟩ : TokD), (⟨1, ⟨#[116]⟩, 0, 126⟩ : TokD), (⟨1, ⟨#[97, 116]⟩, 0, 128⟩ : TokD), (⟨2, ⟨#[49]⟩, 1, 131⟩ : TokD), (⟨3, ⟨#[59]⟩, 0, 132⟩ : TokD), (⟨3, ⟨#[125]⟩, 0, 134⟩ : TokD)] wakeM [(⟨1, ⟨#[115, 97, 103, 97]⟩, 0, 109⟩ : TokD), (⟨1, ⟨#[103]⟩, 0, 114⟩ : TokD), (⟨3, ⟨#[40]⟩, 0, 115⟩ : TokD), (⟨1, ⟨#[79]⟩, 0, 116⟩ : TokD), (⟨3, ⟨#[41]⟩, 0, 117⟩ : TokD), (⟨3, ⟨#[123]⟩, 0, 119⟩ : TokD), (⟨1, ⟨#[100, 111]⟩, 0, 121⟩ : TokD), (⟨1, ⟨#[83]⟩, 0, 124⟩ : TokD), (⟨3, ⟨#[46]⟩, 0, 125⟩ : TokD), (⟨1, ⟨#[116]⟩, 0, 126⟩ : TokD), (⟨1, ⟨#[97, 116]⟩, 0, 128⟩ : TokD), (⟨2, ⟨#[49]⟩, 1, 131⟩ : TokD), (⟨3, ⟨#[59]⟩, 0, 132⟩ : TokD), (⟨3, ⟨#[125]⟩, 0, 134⟩ : TokD)] :=
  .cons (ks := [(⟨1, ⟨#[103, 105, 118, 101]⟩, 0, 63⟩ : TokD), (⟨1, ⟨#[116]⟩, 0, 68⟩ : TokD), (⟨3, ⟨#[40]⟩, 0, 69⟩ : TokD), (⟨1, ⟨#[79]⟩, 0, 70⟩ : TokD), (⟨3, ⟨#[41]⟩, 0, 71⟩ : TokD), (⟨3, ⟨#[45, 62]⟩, 0, 73⟩ : TokD), (⟨1, ⟨#[105, 110, 116]⟩, 0, 76⟩ : TokD), (⟨1, ⟨#[117, 110, 100, 111]⟩, 0, 80⟩ : TokD), (⟨1, ⟨#[117]⟩, 0, 85⟩ : TokD), (⟨3, ⟨#[59]⟩, 0, 86⟩ : TokD)]) ⟨(⟨1, ⟨#[103, 105, 118, 101]⟩, 0, 63⟩ : TokD), (⟨1, ⟨#[116]⟩, 0, 68⟩ : TokD), (⟨3, ⟨#[40]⟩, 0, 69⟩ : TokD), (⟨1, ⟨#[79]⟩, 0, 70⟩ : TokD), (⟨3, ⟨#[41]⟩, 0, 71⟩ : TokD), (⟨3, ⟨#[45, 62]⟩, 0, 73⟩ : TokD), (⟨1, ⟨#[105, 110, 116]⟩, 0, 76⟩ : TokD), (⟨3, ⟨#[59]⟩, 0, 86⟩ : TokD), ⟨by decide, by decide⟩, ⟨rfl, by simp⟩, ⟨rfl, by kernel_rfl⟩, ⟨by decide, rfl⟩, ⟨rfl, by kernel_rfl⟩, ⟨by decide, rfl⟩, ⟨by decide, rfl⟩, ⟨rfl, by simp⟩, end_int, ⟨by decide, rfl⟩, rfl, rfl, rfl, .inr ⟨(⟨1, ⟨#[117, 110, 100, 111]⟩, 0, 80⟩ : TokD), (⟨1, ⟨#[117]⟩, 0, 85⟩ : TokD), rfl, ⟨by decide, rfl⟩, ⟨rfl, by kernel_rfl⟩, rfl⟩⟩ (.cons (ks := [(⟨1, ⟨#[116, 97, 107, 101]⟩, 0, 88⟩ : TokD), (⟨1, ⟨#[117]⟩, 0, 93⟩ : TokD), (⟨3, ⟨#[40]⟩, 0, 94⟩ : TokD), (⟨1, ⟨#[79]⟩, 0, 95⟩ : TokD), (⟨3, ⟨#[41]⟩, 0, 96⟩ : TokD), (⟨3, ⟨#[45, 62]⟩, 0, 98⟩ : TokD), (⟨1, ⟨#[110, 111, 110, 101]⟩, 0, 101⟩ : TokD), (⟨3, ⟨#[59]⟩, 0, 105⟩ : TokD)]) ⟨(⟨1, ⟨#[116, 97, 107, 101]⟩, 0, 88⟩ : TokD), (⟨1, ⟨#[117]⟩, 0, 93⟩ : TokD), (⟨3, ⟨#[40]⟩, 0, 94⟩ : TokD), (⟨1, ⟨#[79]⟩, 0, 95⟩ : TokD), (⟨3, ⟨#[41]⟩, 0, 96⟩ : TokD), (⟨3, ⟨#[45, 62]⟩, 0, 98⟩ : TokD), (⟨1, ⟨#[110, 111, 110, 101]⟩, 0, 101⟩ : TokD), (⟨3, ⟨#[59]⟩, 0, 105⟩ : TokD), ⟨by decide, by decide⟩, ⟨rfl, by simp⟩, ⟨rfl, by kernel_rfl⟩, ⟨by decide, rfl⟩, ⟨rfl, by kernel_rfl⟩, ⟨by decide, rfl⟩, ⟨by decide, rfl⟩, ⟨rfl, by simp⟩, end_none, ⟨by decide, rfl⟩, rfl, rfl, rfl, .inl ⟨rfl, rfl⟩⟩ (.nil ⟨by decide, rfl⟩))
set_option maxRecDepth 100000 in
theorem wake_S : Runs SK [(⟨1, ⟨#[100, 111]⟩, 0, 121⟩ : TokD), (⟨1, ⟨#[83]⟩, 0, 124⟩ : TokD), (⟨3, ⟨#[46]⟩, 0, 125⟩ : TokD), (⟨1, ⟨#[116]⟩, 0, 126⟩ : TokD), (⟨1, ⟨#[97, 116]⟩, 0, 128⟩ : TokD), (⟨2, ⟨#[49]⟩, 1, 131⟩ : TokD), (⟨3, ⟨#[59]⟩, 0, 132⟩ : TokD), (⟨3, ⟨#[125]⟩, 0, 134⟩ : TokD)] wakeP [] :=
  .cons (ks := [(⟨1, ⟨#[100, 111]⟩, 0, 121⟩ : TokD), (⟨1, ⟨#[83]⟩, 0, 124⟩ : TokD), (⟨3, ⟨#[46]⟩, 0, 125⟩ : TokD), (⟨1, ⟨#[116]⟩, 0, 126⟩ : TokD), (⟨1, ⟨#[97, 116]⟩, 0, 128⟩ : TokD), (⟨2, ⟨#[49]⟩, 1, 131⟩ : TokD), (⟨3, ⟨#[59]⟩, 0, 132⟩ : TokD)]) ⟨(⟨1, ⟨#[100, 111]⟩, 0, 121⟩ : TokD), (⟨1, ⟨#[83]⟩, 0, 124⟩ : TokD), (⟨3, ⟨#[46]⟩, 0, 125⟩ : TokD), (⟨1, ⟨#[116]⟩, 0, 126⟩ : TokD), (⟨1, ⟨#[97, 116]⟩, 0, 128⟩ : TokD), (⟨2, ⟨#[49]⟩, 1, 131⟩ : TokD), (⟨3, ⟨#[59]⟩, 0, 132⟩ : TokD), rfl, ⟨by decide, by decide⟩, ⟨by decide, rfl⟩, ⟨rfl, by kernel_rfl⟩, ⟨by decide, rfl⟩, ⟨rfl, by kernel_rfl⟩, ⟨by decide, rfl⟩, rfl, ⟨by decide, rfl⟩, rfl⟩ (.nil ⟨by decide, rfl⟩)
set_option maxRecDepth 100000 in
theorem wake_parse (w : World) (hkw : Hid (Kw w)) : Calls Tryz.prog 11 #[.string wakeT] w (ParTo ⟨#[109]⟩ ⟨#[79]⟩ ⟨#[83]⟩ ⟨#[103]⟩ ⟨#[79]⟩ [(⟨#[97, 99, 99, 111, 117, 110, 116]⟩, [⟨4, ⟨#[]⟩⟩]), (⟨#[97, 109, 111, 117, 110, 116]⟩, [⟨3, ⟨#[]⟩⟩])] wakeM wakeP w (fun v => .tuple #[v, .int .i64 0, .int .i64 0])) :=
  parse_any (s := wakeT) (tm := (⟨1, ⟨#[109, 111, 100, 117, 108, 101]⟩, 0, 0⟩ : TokD)) (tn := (⟨1, ⟨#[109]⟩, 0, 7⟩ : TokD)) (te := (⟨3, ⟨#[59]⟩, 0, 8⟩ : TokD)) (tR := (⟨1, ⟨#[114, 101, 99, 111, 114, 100]⟩, 0, 10⟩ : TokD)) (nR := (⟨1, ⟨#[79]⟩, 0, 17⟩ : TokD)) (bR := (⟨3, ⟨#[123]⟩, 0, 19⟩ : TokD)) (tV := (⟨1, ⟨#[115, 101, 114, 118, 105, 99, 101]⟩, 0, 51⟩ : TokD)) (nV := (⟨1, ⟨#[83]⟩, 0, 59⟩ : TokD)) (bV := (⟨3, ⟨#[123]⟩, 0, 61⟩ : TokD)) (tG := (⟨1, ⟨#[115, 97, 103, 97]⟩, 0, 109⟩ : TokD)) (nG := (⟨1, ⟨#[103]⟩, 0, 114⟩ : TokD)) (g1 := (⟨3, ⟨#[40]⟩, 0, 115⟩ : TokD)) (ga := (⟨1, ⟨#[79]⟩, 0, 116⟩ : TokD)) (g2 := (⟨3, ⟨#[41]⟩, 0, 117⟩ : TokD)) (bG := (⟨3, ⟨#[123]⟩, 0, 119⟩ : TokD)) (xs := [(⟨#[97, 99, 99, 111, 117, 110, 116]⟩, 4), (⟨#[97, 109, 111, 117, 110, 116]⟩, 3)]) (ms := wakeM) (ss := wakeP)
    hkw (hide ⟨by decide, rfl⟩) (hide ⟨rfl, by kernel_rfl⟩) (hide ⟨by decide, rfl⟩) (hide ⟨rfl, rfl⟩) (hide ⟨rfl, by kernel_rfl⟩) (hide ⟨by decide, rfl⟩) (by decide) (hide wake_F) (hide ⟨rfl, rfl⟩) (hide ⟨rfl, by kernel_rfl⟩) (hide ⟨by decide, rfl⟩) (by decide) (hide wake_M) (hide ⟨rfl, rfl⟩) (hide ⟨rfl, by kernel_rfl⟩) (hide ⟨by decide, rfl⟩) (hide ⟨rfl, by kernel_rfl⟩) (hide ⟨by decide, rfl⟩) (hide ⟨by decide, rfl⟩) (by decide) (hide wake_S) (by decide) (by decide) wake_toks
theorem wake_good (a b fv rv mv vv sv gv : Value) : GSch (wakeS a b fv rv mv vv sv gv) := by
  refine ⟨by show (1 : Nat) ≤ 200; omega, by show (1 : Nat) ≤ 100; omega, by show (1 : Nat) ≤ 100; omega, by show (1 : Nat) ≤ 100; omega, fun r hr => ?_, fun r hr => ?_, fun r hr => ?_⟩
  all_goals
    simp only [wakeS, List.mem_singleton] at hr
    subst hr
  · refine ⟨Nat.le_of_ble_eq_true rfl, Nat.le_of_ble_eq_true rfl, fun f hf => ?_⟩
    simp only [List.mem_cons, List.not_mem_nil, or_false] at hf
    rcases hf with rfl | rfl <;> refine ⟨Nat.le_of_ble_eq_true rfl, Nat.le_of_ble_eq_true rfl, fun t ht => ?_⟩ <;> (simp only [List.mem_singleton] at ht; subst ht; show (0 : Nat) ≤ 200; omega)
  · refine ⟨Nat.le_of_ble_eq_true rfl, Nat.le_of_ble_eq_true rfl, fun m hm => ?_⟩
    simp only [wakeM, List.mem_cons, List.not_mem_nil, or_false] at hm
    rcases hm with rfl | rfl <;> exact ⟨Nat.le_of_ble_eq_true rfl, Nat.le_of_ble_eq_true rfl, Nat.le_of_ble_eq_true rfl, Nat.le_of_ble_eq_true rfl⟩
  · refine ⟨Nat.le_of_ble_eq_true rfl, Nat.le_of_ble_eq_true rfl, Nat.le_of_ble_eq_true rfl, fun m hm => ?_⟩
    simp only [wakeP, List.mem_singleton] at hm
    subst hm
    exact ⟨Nat.le_of_ble_eq_true rfl, Nat.le_of_ble_eq_true rfl⟩
end Go.Proofs.YtnljdcghaecdaaaGreatDoor
namespace Go.Proofs.YtnljdcghaecdaaaGreatDoor
open Go.RowKit Go.Lib Go.Maps
attribute [local go_sem] Oper.semAt_some

theorem two_fields {d : List FieldD} {x y : ByteArray} {s t : List SortD} (h : d.map fkey = [(x, s), (y, t)]) : ∃ a b, d = [⟨x, s, a⟩, ⟨y, t, b⟩] := by
  match d, h with
  | [⟨n1, s1, a⟩, ⟨n2, s2, b⟩], h =>
    simp [fkey] at h
    obtain ⟨⟨rfl, rfl⟩, rfl, rfl⟩ := h
    exact ⟨a, b, rfl⟩
set_option maxRecDepth 100000 in
set_option maxHeartbeats 8000000 in
theorem wakes_any (w : World) (hk : Kw w) : Calls Tryz.prog 6 #[] w fun e w' => e = .returned (.bool true) ∧ Turn (fun _ => False) w w' := by
  have C1 := hide (wake_parse w (hide hk))
  have HK := hide hk
  clear hk
  go_enter Tryz.func6, Tryz.ntmps6
  go_wp2_with fail
  refine C1.out.mono ?_
  rintro e w1 ⟨rv, fv, vv, mv, gv, sv, d, rfl, HD, HSC, T1⟩
  obtain ⟨a, b, rfl⟩ := two_fields HD
  have HS0 : SchAt w1 (wakeS a b fv rv mv vv sv gv) := HSC (fun _ => False) w1 (fun _ h => h.elim) (Turn.refl _ _)
  obtain ⟨Ag0, cg0, eg⟩ : ∃ A c, gv = .slice A 1 c := HS0.gs.1.shape
  obtain ⟨Av0, cv0, ev⟩ : ∃ A c, vv = .slice A 1 c := HS0.vs.1.shape
  obtain ⟨Ar0, cr0, er⟩ : ∃ A c, rv = .slice A 1 c := HS0.rs.1.shape
  have HT1 := hide T1
  obtain ⟨w2, r2, B2, HW2, HR2, HB2, S2⟩ := lay (hide (Lie.start w1)) (.cells #[.string ⟨#[109]⟩, rv, vv, gv] 26)
  have HS2 := HS0.on (lie_turn S2)
  have CP := hide (print_any _ w2 HS2 (wake_good _ _ _ _ _ _ _ _) (kw_on HK (T1.step (lie_turn S2) (fun _ _ h => h))) (wake_check _ _ _ _ _ _ _ _) (wake_len _ _ _ _ _ _ _ _) (wake_join _ _ _ _ _ _ _ _))
  rw [wake_long] at CP
  have hl0 := wake_long0
  generalize longN (joinS (textT (wakeS wv wv wv wv wv wv wv wv))) = lg at *
  have CP : Hid (Calls Tryz.prog 12 #[.agg #[.string ⟨#[109]⟩, rv, vv, gv]] w2 fun e w' => e = .returned (.tuple #[.int .u64 lg, .int .i64 0]) ∧ Turn (fun _ => False) w2 w') := CP
  clear HS0 HS2 HSC T1 HD
  subst eg ev er
  go_upto_region 2 with (fail)
  rw [← HW2.out, ← HR2.out]
  rw [HB2.out] at S2
  obtain ⟨c0, c1, c2, c3⟩ := cell4 (S2.out.get 0 rfl)
  go_wp2_with fail
  refine CP.out.mono ?_
  rintro e w3 ⟨rfl, T3⟩
  have S3 := hide (S2.out.stay T3)
  clear c0 c1 c2 c3 CP C1
  obtain ⟨c0, c1, c2, c3⟩ := cell4 (S3.out.get 0 rfl)
  go_wp2_with fail
  go_ret
  exact ⟨rfl, HT1.out.step (lie_turn S3) (fun _ _ h => h)⟩
end Go.Proofs.YtnljdcghaecdaaaGreatDoor
