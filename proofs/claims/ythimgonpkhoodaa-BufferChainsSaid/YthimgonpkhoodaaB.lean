/- The seat's functions: in which order each region that draws is walked (by a program of this session's), and the door to each function's code. Own work. -/
import Derived.Test.YthimgonpkhoodaaSyN
import Derived.Test.YthimgonpkhoodaaChecked
namespace Go.Proofs.Ythimgonpkhoodaa
open Go Go.Sy
set_option maxRecDepth 100000
theorem mixed : Try.prog.follows .mixedOrders = true := by kernel_rfl
def bodyOf (f : Func) : Code := match f.body with | some c => c | none => .skip
def sch3 : Nat → Sched
  | 9 => ⟨[0, 0, 3, 7, 15, 31, 0, 0, 192, 448, 960, 2047, 4095, 4095, 16383], (.step 0 [] (.step 1 [] (.step 2 [] (.step 3 [] (.step 4 [] (.step 6 [] (.step 7 [] (.step 8 [] (.step 9 [] (.step 10 [] (.step 5 [10] (.step 11 [] (.step 12 [] (.step 13 [] (.step 14 [] .nil))))))))))))))), false⟩
  | _ => ⟨[], .nil, false⟩
theorem ok3 : okCode Try.prog sch3 (bodyOf Try.f3) = true := by kernel_rfl
theorem en3 {args : List SV} {H : SH} {K : SV → SH → Prop} (h : forceL (args ++ List.replicate (Try.f3.ntmps - args.length) (.raw undef)) fun ts => ex Try.prog sch3 (bodyOf Try.f3) ts H (retK Try.prog Try.f3.results.toList K)) : FnOb Try.prog 3 args H K := fnOb_of_ex mixed Try.func3 rfl (by decide) ok3 h
def sch4 : Nat → Sched
  | _ => ⟨[], .nil, false⟩
theorem ok4 : okCode Try.prog sch4 (bodyOf Try.f4) = true := by kernel_rfl
theorem en4 {args : List SV} {H : SH} {K : SV → SH → Prop} (h : forceL (args ++ List.replicate (Try.f4.ntmps - args.length) (.raw undef)) fun ts => ex Try.prog sch4 (bodyOf Try.f4) ts H (retK Try.prog Try.f4.results.toList K)) : FnOb Try.prog 4 args H K := fnOb_of_ex mixed Try.func4 rfl (by decide) ok4 h
def sch5 : Nat → Sched
  | 15 => ⟨[0, 0, 3, 7, 15, 0, 63, 127], (.step 0 [] (.step 1 [] (.step 2 [] (.step 3 [] (.step 4 [] (.step 5 [] (.step 6 [] (.step 7 [] .nil)))))))), false⟩
  | 25 => ⟨[0, 0, 0, 0, 12, 28, 0, 64, 252, 511, 1023], (.step 0 [] (.step 1 [] (.step 2 [] (.step 3 [] (.step 4 [] (.step 5 [] (.step 6 [] (.step 7 [0, 2, 5] (.step 8 [0] (.step 9 [] (.step 10 [] .nil))))))))))), false⟩
  | 30 => ⟨[0, 0, 0, 0, 12, 28, 63, 127], (.step 0 [] (.step 1 [] (.step 2 [] (.step 3 [] (.step 4 [] (.step 5 [] (.step 6 [] (.step 7 [] .nil)))))))), false⟩
  | 32 => ⟨[0, 0, 0, 0, 12, 28, 0, 124, 255, 511], (.step 0 [] (.step 1 [] (.step 2 [] (.step 3 [] (.step 4 [] (.step 5 [] (.step 6 [0, 2, 5] (.step 7 [0] (.step 8 [] (.step 9 [] .nil)))))))))), false⟩
  | 42 => ⟨[0, 0, 3, 7, 0, 0, 48, 112, 240, 511, 1023, 2047, 2047, 8191, 16383, 32767, 65535], (.step 0 [] (.step 1 [] (.step 2 [] (.step 3 [] (.step 4 [] (.step 5 [] (.step 6 [] (.step 7 [] (.step 8 [] (.step 9 [] (.step 10 [] (.step 11 [] (.step 12 [] (.step 13 [] (.step 14 [] (.step 15 [] (.step 16 [] .nil))))))))))))))))), false⟩
  | _ => ⟨[], .nil, false⟩
theorem ok5 : okCode Try.prog sch5 (bodyOf Try.f5) = true := by kernel_rfl
theorem en5 {args : List SV} {H : SH} {K : SV → SH → Prop} (h : forceL (args ++ List.replicate (Try.f5.ntmps - args.length) (.raw undef)) fun ts => ex Try.prog sch5 (bodyOf Try.f5) ts H (retK Try.prog Try.f5.results.toList K)) : FnOb Try.prog 5 args H K := fnOb_of_ex mixed Try.func5 rfl (by decide) ok5 h
def sch6 : Nat → Sched
  | _ => ⟨[], .nil, false⟩
theorem ok6 : okCode Try.prog sch6 (bodyOf Try.f6) = true := by kernel_rfl
theorem en6 {args : List SV} {H : SH} {K : SV → SH → Prop} (h : forceL (args ++ List.replicate (Try.f6.ntmps - args.length) (.raw undef)) fun ts => ex Try.prog sch6 (bodyOf Try.f6) ts H (retK Try.prog Try.f6.results.toList K)) : FnOb Try.prog 6 args H K := fnOb_of_ex mixed Try.func6 rfl (by decide) ok6 h
def sch7 : Nat → Sched
  | 16 => ⟨[0, 0, 3, 7, 0, 0, 48, 112, 255], (.step 0 [] (.step 1 [] (.step 2 [] (.step 3 [] (.step 4 [] (.step 5 [] (.step 6 [] (.step 7 [] (.step 8 [] .nil))))))))), false⟩
  | _ => ⟨[], .nil, false⟩
theorem ok7 : okCode Try.prog sch7 (bodyOf Try.f7) = true := by kernel_rfl
theorem en7 {args : List SV} {H : SH} {K : SV → SH → Prop} (h : forceL (args ++ List.replicate (Try.f7.ntmps - args.length) (.raw undef)) fun ts => ex Try.prog sch7 (bodyOf Try.f7) ts H (retK Try.prog Try.f7.results.toList K)) : FnOb Try.prog 7 args H K := fnOb_of_ex mixed Try.func7 rfl (by decide) ok7 h
def sch8 : Nat → Sched
  | _ => ⟨[], .nil, false⟩
theorem ok8 : okCode Try.prog sch8 (bodyOf Try.f8) = true := by kernel_rfl
theorem en8 {args : List SV} {H : SH} {K : SV → SH → Prop} (h : forceL (args ++ List.replicate (Try.f8.ntmps - args.length) (.raw undef)) fun ts => ex Try.prog sch8 (bodyOf Try.f8) ts H (retK Try.prog Try.f8.results.toList K)) : FnOb Try.prog 8 args H K := fnOb_of_ex mixed Try.func8 rfl (by decide) ok8 h
def sch9 : Nat → Sched
  | _ => ⟨[], .nil, false⟩
theorem ok9 : okCode Try.prog sch9 (bodyOf Try.f9) = true := by kernel_rfl
theorem en9 {args : List SV} {H : SH} {K : SV → SH → Prop} (h : forceL (args ++ List.replicate (Try.f9.ntmps - args.length) (.raw undef)) fun ts => ex Try.prog sch9 (bodyOf Try.f9) ts H (retK Try.prog Try.f9.results.toList K)) : FnOb Try.prog 9 args H K := fnOb_of_ex mixed Try.func9 rfl (by decide) ok9 h
def sch10 : Nat → Sched
  | 25 => ⟨[0, 0, 2, 7, 0, 0, 32, 127, 255], (.step 0 [] (.step 1 [] (.step 2 [] (.step 4 [] (.step 5 [] (.step 6 [] (.step 3 [6] (.step 7 [] (.step 8 [] .nil))))))))), false⟩
  | _ => ⟨[], .nil, false⟩
theorem ok10 : okCode Try.prog sch10 (bodyOf Try.f10) = true := by kernel_rfl
theorem en10 {args : List SV} {H : SH} {K : SV → SH → Prop} (h : forceL (args ++ List.replicate (Try.f10.ntmps - args.length) (.raw undef)) fun ts => ex Try.prog sch10 (bodyOf Try.f10) ts H (retK Try.prog Try.f10.results.toList K)) : FnOb Try.prog 10 args H K := fnOb_of_ex mixed Try.func10 rfl (by decide) ok10 h
def sch11 : Nat → Sched
  | 22 => ⟨[0, 1, 3, 0, 8, 31, 63, 127], (.step 0 [] (.step 1 [] (.step 3 [] (.step 4 [] (.step 2 [4] (.step 5 [] (.step 6 [] (.step 7 [] .nil)))))))), false⟩
  | 27 => ⟨[0, 0, 2, 7, 0, 16, 48, 0, 128, 384, 1008, 911, 4095], (.step 0 [] (.step 1 [] (.step 2 [] (.step 3 [] (.step 4 [] (.step 5 [] (.step 6 [] (.step 7 [] (.step 8 [] (.step 9 [2, 5] (.step 10 [] (.step 11 [5] (.step 12 [] .nil))))))))))))), false⟩
  | 17 => ⟨[0, 0, 0, 6, 15, 0, 0, 64, 224, 511, 1023], (.step 1 [] (.step 2 [] (.step 3 [] (.step 5 [] (.step 6 [] (.step 7 [] (.step 8 [] (.step 0 [] (.step 4 [] (.step 9 [] (.step 10 [] .nil))))))))))), false⟩
  | _ => ⟨[], .nil, false⟩
theorem ok11 : okCode Try.prog sch11 (bodyOf Try.f11) = true := by kernel_rfl
theorem en11 {args : List SV} {H : SH} {K : SV → SH → Prop} (h : forceL (args ++ List.replicate (Try.f11.ntmps - args.length) (.raw undef)) fun ts => ex Try.prog sch11 (bodyOf Try.f11) ts H (retK Try.prog Try.f11.results.toList K)) : FnOb Try.prog 11 args H K := fnOb_of_ex mixed Try.func11 rfl (by decide) ok11 h
def sch12 : Nat → Sched
  | _ => ⟨[], .nil, false⟩
theorem ok12 : okCode Try.prog sch12 (bodyOf Try.f12) = true := by kernel_rfl
theorem en12 {args : List SV} {H : SH} {K : SV → SH → Prop} (h : forceL (args ++ List.replicate (Try.f12.ntmps - args.length) (.raw undef)) fun ts => ex Try.prog sch12 (bodyOf Try.f12) ts H (retK Try.prog Try.f12.results.toList K)) : FnOb Try.prog 12 args H K := fnOb_of_ex mixed Try.func12 rfl (by decide) ok12 h
def sch13 : Nat → Sched
  | _ => ⟨[], .nil, false⟩
theorem ok13 : okCode Try.prog sch13 (bodyOf Try.f13) = true := by kernel_rfl
theorem en13 {args : List SV} {H : SH} {K : SV → SH → Prop} (h : forceL (args ++ List.replicate (Try.f13.ntmps - args.length) (.raw undef)) fun ts => ex Try.prog sch13 (bodyOf Try.f13) ts H (retK Try.prog Try.f13.results.toList K)) : FnOb Try.prog 13 args H K := fnOb_of_ex mixed Try.func13 rfl (by decide) ok13 h
def sch14 : Nat → Sched
  | _ => ⟨[], .nil, false⟩
theorem ok14 : okCode Try.prog sch14 (bodyOf Try.f14) = true := by kernel_rfl
theorem en14 {args : List SV} {H : SH} {K : SV → SH → Prop} (h : forceL (args ++ List.replicate (Try.f14.ntmps - args.length) (.raw undef)) fun ts => ex Try.prog sch14 (bodyOf Try.f14) ts H (retK Try.prog Try.f14.results.toList K)) : FnOb Try.prog 14 args H K := fnOb_of_ex mixed Try.func14 rfl (by decide) ok14 h
def sch15 : Nat → Sched
  | 9 => ⟨[0, 1, 3, 7, 0, 31, 63, 127, 127, 255, 1023], (.step 0 [] (.step 1 [] (.step 2 [] (.step 3 [] (.step 4 [] (.step 5 [] (.step 6 [] (.step 7 [] (.step 8 [] (.step 9 [] (.step 10 [] .nil))))))))))), false⟩
  | 17 => ⟨[0, 0, 2, 6, 14, 30, 62, 0, 128, 384, 896, 1920, 126, 8191, 16383, 32767], (.step 0 [] (.step 1 [] (.step 2 [] (.step 3 [] (.step 4 [] (.step 5 [] (.step 6 [] (.step 7 [] (.step 8 [] (.step 9 [] (.step 10 [] (.step 11 [] (.step 12 [10] (.step 13 [] (.step 14 [] (.step 15 [] .nil)))))))))))))))), false⟩
  | 19 => ⟨[0, 1, 3, 7, 0, 0, 32, 96, 255, 511], (.step 0 [] (.step 1 [] (.step 2 [] (.step 3 [] (.step 4 [] (.step 5 [] (.step 6 [] (.step 7 [3] (.step 8 [] (.step 9 [] .nil)))))))))), false⟩
  | 21 => ⟨[0, 1, 3, 7, 0, 0, 63], (.step 0 [] (.step 1 [] (.step 2 [] (.step 3 [] (.step 4 [] (.step 5 [] (.step 6 [] .nil))))))), false⟩
  | _ => ⟨[], .nil, false⟩
theorem ok15 : okCode Try.prog sch15 (bodyOf Try.f15) = true := by kernel_rfl
theorem en15 {args : List SV} {H : SH} {K : SV → SH → Prop} (h : forceL (args ++ List.replicate (Try.f15.ntmps - args.length) (.raw undef)) fun ts => ex Try.prog sch15 (bodyOf Try.f15) ts H (retK Try.prog Try.f15.results.toList K)) : FnOb Try.prog 15 args H K := fnOb_of_ex mixed Try.func15 rfl (by decide) ok15 h
def sch16 : Nat → Sched
  | 7 => ⟨[0, 0, 2, 6, 14, 30, 0, 64, 192, 448, 960, 2046, 4094, 8191, 16383], (.step 0 [] (.step 1 [] (.step 2 [] (.step 3 [] (.step 4 [] (.step 5 [] (.step 6 [] (.step 7 [] (.step 8 [] (.step 9 [] (.step 10 [] (.step 11 [] (.step 12 [] (.step 13 [] (.step 14 [] .nil))))))))))))))), false⟩
  | _ => ⟨[], .nil, false⟩
theorem ok16 : okCode Try.prog sch16 (bodyOf Try.f16) = true := by kernel_rfl
theorem en16 {args : List SV} {H : SH} {K : SV → SH → Prop} (h : forceL (args ++ List.replicate (Try.f16.ntmps - args.length) (.raw undef)) fun ts => ex Try.prog sch16 (bodyOf Try.f16) ts H (retK Try.prog Try.f16.results.toList K)) : FnOb Try.prog 16 args H K := fnOb_of_ex mixed Try.func16 rfl (by decide) ok16 h
def sch17 : Nat → Sched
  | 6 => ⟨[0, 0, 3, 7, 0, 0, 48, 112, 255], (.step 0 [] (.step 1 [] (.step 2 [] (.step 3 [] (.step 4 [] (.step 5 [] (.step 6 [] (.step 7 [] (.step 8 [] .nil))))))))), false⟩
  | _ => ⟨[], .nil, false⟩
theorem ok17 : okCode Try.prog sch17 (bodyOf Try.f17) = true := by kernel_rfl
theorem en17 {args : List SV} {H : SH} {K : SV → SH → Prop} (h : forceL (args ++ List.replicate (Try.f17.ntmps - args.length) (.raw undef)) fun ts => ex Try.prog sch17 (bodyOf Try.f17) ts H (retK Try.prog Try.f17.results.toList K)) : FnOb Try.prog 17 args H K := fnOb_of_ex mixed Try.func17 rfl (by decide) ok17 h
def sch18 : Nat → Sched
  | _ => ⟨[], .nil, false⟩
theorem ok18 : okCode Try.prog sch18 (bodyOf Try.f18) = true := by kernel_rfl
theorem en18 {args : List SV} {H : SH} {K : SV → SH → Prop} (h : forceL (args ++ List.replicate (Try.f18.ntmps - args.length) (.raw undef)) fun ts => ex Try.prog sch18 (bodyOf Try.f18) ts H (retK Try.prog Try.f18.results.toList K)) : FnOb Try.prog 18 args H K := fnOb_of_ex mixed Try.func18 rfl (by decide) ok18 h
def sch19 : Nat → Sched
  | _ => ⟨[], .nil, false⟩
theorem ok19 : okCode Try.prog sch19 (bodyOf Try.f19) = true := by kernel_rfl
theorem en19 {args : List SV} {H : SH} {K : SV → SH → Prop} (h : forceL (args ++ List.replicate (Try.f19.ntmps - args.length) (.raw undef)) fun ts => ex Try.prog sch19 (bodyOf Try.f19) ts H (retK Try.prog Try.f19.results.toList K)) : FnOb Try.prog 19 args H K := fnOb_of_ex mixed Try.func19 rfl (by decide) ok19 h
def sch20 : Nat → Sched
  | _ => ⟨[], .nil, false⟩
theorem ok20 : okCode Try.prog sch20 (bodyOf Try.f20) = true := by kernel_rfl
theorem en20 {args : List SV} {H : SH} {K : SV → SH → Prop} (h : forceL (args ++ List.replicate (Try.f20.ntmps - args.length) (.raw undef)) fun ts => ex Try.prog sch20 (bodyOf Try.f20) ts H (retK Try.prog Try.f20.results.toList K)) : FnOb Try.prog 20 args H K := fnOb_of_ex mixed Try.func20 rfl (by decide) ok20 h
def sch21 : Nat → Sched
  | _ => ⟨[], .nil, false⟩
theorem ok21 : okCode Try.prog sch21 (bodyOf Try.f21) = true := by kernel_rfl
theorem en21 {args : List SV} {H : SH} {K : SV → SH → Prop} (h : forceL (args ++ List.replicate (Try.f21.ntmps - args.length) (.raw undef)) fun ts => ex Try.prog sch21 (bodyOf Try.f21) ts H (retK Try.prog Try.f21.results.toList K)) : FnOb Try.prog 21 args H K := fnOb_of_ex mixed Try.func21 rfl (by decide) ok21 h
def sch22 : Nat → Sched
  | _ => ⟨[], .nil, false⟩
theorem ok22 : okCode Try.prog sch22 (bodyOf Try.f22) = true := by kernel_rfl
theorem en22 {args : List SV} {H : SH} {K : SV → SH → Prop} (h : forceL (args ++ List.replicate (Try.f22.ntmps - args.length) (.raw undef)) fun ts => ex Try.prog sch22 (bodyOf Try.f22) ts H (retK Try.prog Try.f22.results.toList K)) : FnOb Try.prog 22 args H K := fnOb_of_ex mixed Try.func22 rfl (by decide) ok22 h
def sch23 : Nat → Sched
  | _ => ⟨[], .nil, false⟩
theorem ok23 : okCode Try.prog sch23 (bodyOf Try.f23) = true := by kernel_rfl
theorem en23 {args : List SV} {H : SH} {K : SV → SH → Prop} (h : forceL (args ++ List.replicate (Try.f23.ntmps - args.length) (.raw undef)) fun ts => ex Try.prog sch23 (bodyOf Try.f23) ts H (retK Try.prog Try.f23.results.toList K)) : FnOb Try.prog 23 args H K := fnOb_of_ex mixed Try.func23 rfl (by decide) ok23 h
def sch24 : Nat → Sched
  | _ => ⟨[], .nil, false⟩
theorem ok24 : okCode Try.prog sch24 (bodyOf Try.f24) = true := by kernel_rfl
theorem en24 {args : List SV} {H : SH} {K : SV → SH → Prop} (h : forceL (args ++ List.replicate (Try.f24.ntmps - args.length) (.raw undef)) fun ts => ex Try.prog sch24 (bodyOf Try.f24) ts H (retK Try.prog Try.f24.results.toList K)) : FnOb Try.prog 24 args H K := fnOb_of_ex mixed Try.func24 rfl (by decide) ok24 h
def sch25 : Nat → Sched
  | 11 => ⟨[0, 1, 3, 7, 0, 31, 0, 64, 192, 448, 960, 2047, 4095], (.step 0 [] (.step 1 [] (.step 2 [] (.step 3 [] (.step 4 [] (.step 5 [] (.step 6 [] (.step 7 [] (.step 8 [] (.step 9 [] (.step 10 [] (.step 11 [] (.step 12 [] .nil))))))))))))), false⟩
  | _ => ⟨[], .nil, false⟩
theorem ok25 : okCode Try.prog sch25 (bodyOf Try.f25) = true := by kernel_rfl
theorem en25 {args : List SV} {H : SH} {K : SV → SH → Prop} (h : forceL (args ++ List.replicate (Try.f25.ntmps - args.length) (.raw undef)) fun ts => ex Try.prog sch25 (bodyOf Try.f25) ts H (retK Try.prog Try.f25.results.toList K)) : FnOb Try.prog 25 args H K := fnOb_of_ex mixed Try.func25 rfl (by decide) ok25 h
def sch26 : Nat → Sched
  | 11 => ⟨[0, 0, 3, 7, 0, 0, 48, 112, 240, 511, 1023, 2047, 2047, 8191, 16383, 2047, 2047, 100351, 231423, 524287, 1048575, 2097151, 4194303], (.step 0 [] (.step 1 [] (.step 2 [] (.step 3 [] (.step 4 [] (.step 5 [] (.step 6 [] (.step 7 [] (.step 8 [] (.step 9 [] (.step 10 [] (.step 11 [] (.step 12 [] (.step 13 [] (.step 14 [] (.step 15 [] (.step 16 [] (.step 17 [] (.step 18 [] (.step 19 [] (.step 20 [] (.step 21 [] (.step 22 [] .nil))))))))))))))))))))))), false⟩
  | 16 => ⟨[0, 1, 3, 7, 7, 31, 63, 127, 255, 255, 1023, 2047, 255, 255, 12543, 28927, 61695, 131071, 262143, 524287, 1048575, 1048575, 4194303, 8388607, 1048575, 1048575, 51380223, 118489087, 268435455, 536870911, 1073741823, 2147483647, 4294967295, 8589934591, 17179869183, 34359738367, 68719476735, 137438953471, 137438953471, 137438953471, 962072674303, 2061584302079, 137438953471, 137438953471, 13331578486783, 30923764531199, 70231305224191, 140600049401855, 281337537757183, 137438953471, 137438953471, 1688987299217407, 3940787112902655, 137438953471, 137438953471, 27021735203176447, 63050532222140415, 143552375561388031, 287667563637243903, 575897939788955647, 1152358692092379135, 2305842871774740479, 4611685880988434431, 9223372036854775807, 18446744073709551615], (.step 0 [] (.step 1 [] (.step 2 [] (.step 3 [] (.step 4 [] (.step 5 [] (.step 6 [] (.step 7 [] (.step 8 [] (.step 9 [] (.step 10 [] (.step 11 [] (.step 12 [] (.step 13 [] (.step 14 [] (.step 15 [] (.step 16 [] (.step 17 [] (.step 18 [] (.step 19 [] (.step 20 [] (.step 21 [] (.step 22 [] (.step 23 [] (.step 24 [] (.step 25 [] (.step 26 [] (.step 27 [] (.step 28 [] (.step 29 [] (.step 30 [] (.step 31 [] (.step 32 [] (.step 33 [] (.step 34 [] (.step 35 [] (.step 36 [] (.step 37 [] (.step 38 [] (.step 39 [] (.step 40 [] (.step 41 [] (.step 42 [] (.step 43 [] (.step 44 [] (.step 45 [] (.step 46 [] (.step 47 [] (.step 48 [] (.step 49 [] (.step 50 [] (.step 51 [] (.step 52 [] (.step 53 [] (.step 54 [] (.step 55 [] (.step 56 [] (.step 57 [] (.step 58 [] (.step 59 [] (.step 60 [] (.step 61 [] (.step 62 [] (.step 63 [] (.step 64 [] .nil))))))))))))))))))))))))))))))))))))))))))))))))))))))))))))))))), false⟩
  | _ => ⟨[], .nil, false⟩
theorem ok26 : okCode Try.prog sch26 (bodyOf Try.f26) = true := by kernel_rfl
theorem en26 {args : List SV} {H : SH} {K : SV → SH → Prop} (h : forceL (args ++ List.replicate (Try.f26.ntmps - args.length) (.raw undef)) fun ts => ex Try.prog sch26 (bodyOf Try.f26) ts H (retK Try.prog Try.f26.results.toList K)) : FnOb Try.prog 26 args H K := fnOb_of_ex mixed Try.func26 rfl (by decide) ok26 h
def sch27 : Nat → Sched
  | _ => ⟨[], .nil, false⟩
theorem ok27 : okCode Try.prog sch27 (bodyOf Try.f27) = true := by kernel_rfl
theorem en27 {args : List SV} {H : SH} {K : SV → SH → Prop} (h : forceL (args ++ List.replicate (Try.f27.ntmps - args.length) (.raw undef)) fun ts => ex Try.prog sch27 (bodyOf Try.f27) ts H (retK Try.prog Try.f27.results.toList K)) : FnOb Try.prog 27 args H K := fnOb_of_ex mixed Try.func27 rfl (by decide) ok27 h
def sch28 : Nat → Sched
  | _ => ⟨[], .nil, false⟩
theorem ok28 : okCode Try.prog sch28 (bodyOf Try.f28) = true := by kernel_rfl
theorem en28 {args : List SV} {H : SH} {K : SV → SH → Prop} (h : forceL (args ++ List.replicate (Try.f28.ntmps - args.length) (.raw undef)) fun ts => ex Try.prog sch28 (bodyOf Try.f28) ts H (retK Try.prog Try.f28.results.toList K)) : FnOb Try.prog 28 args H K := fnOb_of_ex mixed Try.func28 rfl (by decide) ok28 h
def sch29 : Nat → Sched
  | _ => ⟨[], .nil, false⟩
theorem ok29 : okCode Try.prog sch29 (bodyOf Try.f29) = true := by kernel_rfl
theorem en29 {args : List SV} {H : SH} {K : SV → SH → Prop} (h : forceL (args ++ List.replicate (Try.f29.ntmps - args.length) (.raw undef)) fun ts => ex Try.prog sch29 (bodyOf Try.f29) ts H (retK Try.prog Try.f29.results.toList K)) : FnOb Try.prog 29 args H K := fnOb_of_ex mixed Try.func29 rfl (by decide) ok29 h
def sch30 : Nat → Sched
  | 7 => ⟨[0, 0, 2, 0, 8, 31, 0, 0, 128, 0, 512, 2047, 4095, 8191], (.step 0 [] (.step 1 [] (.step 2 [] (.step 3 [] (.step 4 [] (.step 6 [] (.step 7 [] (.step 8 [] (.step 9 [] (.step 10 [] (.step 5 [8, 10] (.step 11 [] (.step 12 [] (.step 13 [] .nil)))))))))))))), false⟩
  | 10 => ⟨[0, 1, 3, 7, 15, 31, 63, 127, 255, 511, 255, 1279, 3327, 7423, 15615, 32767, 65535], (.step 0 [] (.step 1 [] (.step 2 [] (.step 3 [] (.step 4 [] (.step 5 [] (.step 6 [] (.step 7 [] (.step 8 [] (.step 9 [] (.step 10 [] (.step 11 [] (.step 12 [] (.step 13 [] (.step 14 [] (.step 15 [] (.step 16 [] .nil))))))))))))))))), false⟩
  | 11 => ⟨[0, 1, 3, 7, 0, 16, 63, 127, 255, 511], (.step 0 [] (.step 1 [] (.step 2 [] (.step 3 [] (.step 4 [] (.step 5 [] (.step 6 [] (.step 7 [] (.step 8 [] (.step 9 [] .nil)))))))))), false⟩
  | 12 => ⟨[0, 0, 2, 0, 15, 0, 0, 64, 0, 511, 1023, 2047], (.step 0 [] (.step 1 [] (.step 2 [] (.step 3 [] (.step 5 [] (.step 6 [] (.step 7 [] (.step 8 [] (.step 4 [7] (.step 9 [] (.step 10 [] (.step 11 [] .nil)))))))))))), false⟩
  | 18 => ⟨[0, 1, 3, 7, 15, 31, 15, 79, 207, 463, 975, 2047, 4095], (.step 0 [] (.step 1 [] (.step 2 [] (.step 3 [] (.step 4 [] (.step 5 [] (.step 6 [] (.step 7 [] (.step 8 [] (.step 9 [] (.step 10 [] (.step 11 [] (.step 12 [] .nil))))))))))))), false⟩
  | 20 => ⟨[0, 0, 2, 6, 14, 0, 32, 126, 254, 510, 1022, 2047, 4095, 8191, 16383, 32767, 65535], (.step 0 [] (.step 1 [] (.step 2 [] (.step 3 [] (.step 4 [] (.step 5 [] (.step 6 [] (.step 7 [] (.step 8 [] (.step 9 [] (.step 10 [] (.step 11 [] (.step 12 [] (.step 13 [] (.step 14 [] (.step 15 [] (.step 16 [] .nil))))))))))))))))), false⟩
  | _ => ⟨[], .nil, false⟩
theorem ok30 : okCode Try.prog sch30 (bodyOf Try.f30) = true := by kernel_rfl
theorem en30 {args : List SV} {H : SH} {K : SV → SH → Prop} (h : forceL (args ++ List.replicate (Try.f30.ntmps - args.length) (.raw undef)) fun ts => ex Try.prog sch30 (bodyOf Try.f30) ts H (retK Try.prog Try.f30.results.toList K)) : FnOb Try.prog 30 args H K := fnOb_of_ex mixed Try.func30 rfl (by decide) ok30 h
def sch31 : Nat → Sched
  | _ => ⟨[], .nil, false⟩
theorem ok31 : okCode Try.prog sch31 (bodyOf Try.f31) = true := by kernel_rfl
theorem en31 {args : List SV} {H : SH} {K : SV → SH → Prop} (h : forceL (args ++ List.replicate (Try.f31.ntmps - args.length) (.raw undef)) fun ts => ex Try.prog sch31 (bodyOf Try.f31) ts H (retK Try.prog Try.f31.results.toList K)) : FnOb Try.prog 31 args H K := fnOb_of_ex mixed Try.func31 rfl (by decide) ok31 h
def sch32 : Nat → Sched
  | 9 => ⟨[0, 1, 3, 7, 0, 16, 48, 112, 255], (.step 0 [] (.step 1 [] (.step 2 [] (.step 3 [] (.step 4 [] (.step 5 [] (.step 6 [] (.step 7 [] (.step 8 [] .nil))))))))), false⟩
  | _ => ⟨[], .nil, false⟩
theorem ok32 : okCode Try.prog sch32 (bodyOf Try.f32) = true := by kernel_rfl
theorem en32 {args : List SV} {H : SH} {K : SV → SH → Prop} (h : forceL (args ++ List.replicate (Try.f32.ntmps - args.length) (.raw undef)) fun ts => ex Try.prog sch32 (bodyOf Try.f32) ts H (retK Try.prog Try.f32.results.toList K)) : FnOb Try.prog 32 args H K := fnOb_of_ex mixed Try.func32 rfl (by decide) ok32 h
def sch33 : Nat → Sched
  | 11 => ⟨[0, 1, 3, 7, 0, 31, 63, 127, 0, 256, 768, 1792, 0, 7936, 16128, 32512, 65535, 131071], (.step 0 [] (.step 1 [] (.step 2 [] (.step 3 [] (.step 4 [] (.step 5 [] (.step 6 [] (.step 7 [] (.step 8 [] (.step 9 [] (.step 10 [] (.step 11 [] (.step 12 [] (.step 13 [] (.step 14 [] (.step 15 [] (.step 16 [] (.step 17 [] .nil)))))))))))))))))), false⟩
  | _ => ⟨[], .nil, false⟩
theorem ok33 : okCode Try.prog sch33 (bodyOf Try.f33) = true := by kernel_rfl
theorem en33 {args : List SV} {H : SH} {K : SV → SH → Prop} (h : forceL (args ++ List.replicate (Try.f33.ntmps - args.length) (.raw undef)) fun ts => ex Try.prog sch33 (bodyOf Try.f33) ts H (retK Try.prog Try.f33.results.toList K)) : FnOb Try.prog 33 args H K := fnOb_of_ex mixed Try.func33 rfl (by decide) ok33 h
def sch34 : Nat → Sched
  | _ => ⟨[], .nil, false⟩
theorem ok34 : okCode Try.prog sch34 (bodyOf Try.f34) = true := by kernel_rfl
theorem en34 {args : List SV} {H : SH} {K : SV → SH → Prop} (h : forceL (args ++ List.replicate (Try.f34.ntmps - args.length) (.raw undef)) fun ts => ex Try.prog sch34 (bodyOf Try.f34) ts H (retK Try.prog Try.f34.results.toList K)) : FnOb Try.prog 34 args H K := fnOb_of_ex mixed Try.func34 rfl (by decide) ok34 h
def sch35 : Nat → Sched
  | _ => ⟨[], .nil, false⟩
theorem ok35 : okCode Try.prog sch35 (bodyOf Try.f35) = true := by kernel_rfl
theorem en35 {args : List SV} {H : SH} {K : SV → SH → Prop} (h : forceL (args ++ List.replicate (Try.f35.ntmps - args.length) (.raw undef)) fun ts => ex Try.prog sch35 (bodyOf Try.f35) ts H (retK Try.prog Try.f35.results.toList K)) : FnOb Try.prog 35 args H K := fnOb_of_ex mixed Try.func35 rfl (by decide) ok35 h
def sch36 : Nat → Sched
  | 7 => ⟨[0, 1, 3, 7, 15, 31, 63, 7, 255, 511, 1023, 7, 2055, 6151, 14343, 7, 63495, 129031, 260103, 524287, 1048575, 2097151], (.step 0 [] (.step 1 [] (.step 2 [] (.step 3 [] (.step 4 [] (.step 5 [] (.step 6 [] (.step 7 [] (.step 8 [] (.step 9 [] (.step 10 [] (.step 11 [] (.step 12 [] (.step 13 [] (.step 14 [] (.step 15 [] (.step 16 [] (.step 17 [] (.step 18 [] (.step 19 [] (.step 20 [] (.step 21 [] .nil)))))))))))))))))))))), false⟩
  | _ => ⟨[], .nil, false⟩
theorem ok36 : okCode Try.prog sch36 (bodyOf Try.f36) = true := by kernel_rfl
theorem en36 {args : List SV} {H : SH} {K : SV → SH → Prop} (h : forceL (args ++ List.replicate (Try.f36.ntmps - args.length) (.raw undef)) fun ts => ex Try.prog sch36 (bodyOf Try.f36) ts H (retK Try.prog Try.f36.results.toList K)) : FnOb Try.prog 36 args H K := fnOb_of_ex mixed Try.func36 rfl (by decide) ok36 h
def sch37 : Nat → Sched
  | 5 => ⟨[0, 1, 3, 7, 0, 31, 63, 127, 0, 256, 768, 1792, 0, 7936, 16128, 32512, 65535, 131071, 0, 524287, 1048575], (.step 0 [] (.step 1 [] (.step 2 [] (.step 3 [] (.step 4 [] (.step 5 [] (.step 6 [] (.step 7 [] (.step 8 [] (.step 9 [] (.step 10 [] (.step 11 [] (.step 12 [] (.step 13 [] (.step 14 [] (.step 15 [] (.step 16 [] (.step 18 [] (.step 17 [] (.step 19 [] (.step 20 [] .nil))))))))))))))))))))), false⟩
  | _ => ⟨[], .nil, false⟩
theorem ok37 : okCode Try.prog sch37 (bodyOf Try.f37) = true := by kernel_rfl
theorem en37 {args : List SV} {H : SH} {K : SV → SH → Prop} (h : forceL (args ++ List.replicate (Try.f37.ntmps - args.length) (.raw undef)) fun ts => ex Try.prog sch37 (bodyOf Try.f37) ts H (retK Try.prog Try.f37.results.toList K)) : FnOb Try.prog 37 args H K := fnOb_of_ex mixed Try.func37 rfl (by decide) ok37 h
def sch38 : Nat → Sched
  | _ => ⟨[], .nil, false⟩
theorem ok38 : okCode Try.prog sch38 (bodyOf Try.f38) = true := by kernel_rfl
theorem en38 {args : List SV} {H : SH} {K : SV → SH → Prop} (h : forceL (args ++ List.replicate (Try.f38.ntmps - args.length) (.raw undef)) fun ts => ex Try.prog sch38 (bodyOf Try.f38) ts H (retK Try.prog Try.f38.results.toList K)) : FnOb Try.prog 38 args H K := fnOb_of_ex mixed Try.func38 rfl (by decide) ok38 h
def sch39 : Nat → Sched
  | 3 => ⟨[0, 1, 3, 7, 0, 31, 63, 127, 0, 256, 768, 1792, 0, 7936, 16128, 32512, 65535, 131071, 262143], (.step 0 [] (.step 1 [] (.step 2 [] (.step 3 [] (.step 4 [] (.step 5 [] (.step 6 [] (.step 7 [] (.step 8 [] (.step 9 [] (.step 10 [] (.step 11 [] (.step 12 [] (.step 13 [] (.step 14 [] (.step 15 [] (.step 16 [] (.step 17 [] (.step 18 [] .nil))))))))))))))))))), false⟩
  | _ => ⟨[], .nil, false⟩
theorem ok39 : okCode Try.prog sch39 (bodyOf Try.f39) = true := by kernel_rfl
theorem en39 {args : List SV} {H : SH} {K : SV → SH → Prop} (h : forceL (args ++ List.replicate (Try.f39.ntmps - args.length) (.raw undef)) fun ts => ex Try.prog sch39 (bodyOf Try.f39) ts H (retK Try.prog Try.f39.results.toList K)) : FnOb Try.prog 39 args H K := fnOb_of_ex mixed Try.func39 rfl (by decide) ok39 h
def sch40 : Nat → Sched
  | 5 => ⟨[0, 1, 3, 7, 0, 31, 63, 127, 0, 256, 768, 1792, 0, 7936, 16128, 32512, 65535, 131071], (.step 0 [] (.step 1 [] (.step 2 [] (.step 3 [] (.step 4 [] (.step 5 [] (.step 6 [] (.step 7 [] (.step 8 [] (.step 9 [] (.step 10 [] (.step 11 [] (.step 12 [] (.step 13 [] (.step 14 [] (.step 15 [] (.step 16 [] (.step 17 [] .nil)))))))))))))))))), false⟩
  | _ => ⟨[], .nil, false⟩
theorem ok40 : okCode Try.prog sch40 (bodyOf Try.f40) = true := by kernel_rfl
theorem en40 {args : List SV} {H : SH} {K : SV → SH → Prop} (h : forceL (args ++ List.replicate (Try.f40.ntmps - args.length) (.raw undef)) fun ts => ex Try.prog sch40 (bodyOf Try.f40) ts H (retK Try.prog Try.f40.results.toList K)) : FnOb Try.prog 40 args H K := fnOb_of_ex mixed Try.func40 rfl (by decide) ok40 h
def sch41 : Nat → Sched
  | _ => ⟨[], .nil, false⟩
theorem ok41 : okCode Try.prog sch41 (bodyOf Try.f41) = true := by kernel_rfl
theorem en41 {args : List SV} {H : SH} {K : SV → SH → Prop} (h : forceL (args ++ List.replicate (Try.f41.ntmps - args.length) (.raw undef)) fun ts => ex Try.prog sch41 (bodyOf Try.f41) ts H (retK Try.prog Try.f41.results.toList K)) : FnOb Try.prog 41 args H K := fnOb_of_ex mixed Try.func41 rfl (by decide) ok41 h
def sch42 : Nat → Sched
  | 3 => ⟨[0, 0, 0, 0, 0, 0, 48, 112, 0, 0, 768, 1792, 4083, 8179, 16383, 32767], (.step 0 [] (.step 1 [] (.step 2 [] (.step 3 [] (.step 4 [] (.step 5 [] (.step 6 [] (.step 7 [] (.step 8 [] (.step 9 [] (.step 10 [] (.step 11 [] (.step 12 [] (.step 13 [] (.step 14 [] (.step 15 [] .nil)))))))))))))))), false⟩
  | _ => ⟨[], .nil, false⟩
theorem ok42 : okCode Try.prog sch42 (bodyOf Try.f42) = true := by kernel_rfl
theorem en42 {args : List SV} {H : SH} {K : SV → SH → Prop} (h : forceL (args ++ List.replicate (Try.f42.ntmps - args.length) (.raw undef)) fun ts => ex Try.prog sch42 (bodyOf Try.f42) ts H (retK Try.prog Try.f42.results.toList K)) : FnOb Try.prog 42 args H K := fnOb_of_ex mixed Try.func42 rfl (by decide) ok42 h
def sch43 : Nat → Sched
  | _ => ⟨[], .nil, false⟩
theorem ok43 : okCode Try.prog sch43 (bodyOf Try.f43) = true := by kernel_rfl
theorem en43 {args : List SV} {H : SH} {K : SV → SH → Prop} (h : forceL (args ++ List.replicate (Try.f43.ntmps - args.length) (.raw undef)) fun ts => ex Try.prog sch43 (bodyOf Try.f43) ts H (retK Try.prog Try.f43.results.toList K)) : FnOb Try.prog 43 args H K := fnOb_of_ex mixed Try.func43 rfl (by decide) ok43 h
def sch44 : Nat → Sched
  | _ => ⟨[], .nil, false⟩
theorem ok44 : okCode Try.prog sch44 (bodyOf Try.f44) = true := by kernel_rfl
theorem en44 {args : List SV} {H : SH} {K : SV → SH → Prop} (h : forceL (args ++ List.replicate (Try.f44.ntmps - args.length) (.raw undef)) fun ts => ex Try.prog sch44 (bodyOf Try.f44) ts H (retK Try.prog Try.f44.results.toList K)) : FnOb Try.prog 44 args H K := fnOb_of_ex mixed Try.func44 rfl (by decide) ok44 h
def sch45 : Nat → Sched
  | 4 => ⟨[0, 0, 0, 4, 12, 28, 0, 124, 0, 256, 768, 1792, 0, 7936, 4093, 20477, 53245, 131071, 262143, 524287], (.step 0 [] (.step 1 [] (.step 2 [] (.step 3 [] (.step 4 [] (.step 5 [] (.step 6 [] (.step 7 [] (.step 8 [] (.step 9 [] (.step 10 [] (.step 11 [] (.step 12 [] (.step 13 [] (.step 14 [] (.step 15 [] (.step 16 [] (.step 17 [] (.step 18 [] (.step 19 [] .nil)))))))))))))))))))), false⟩
  | _ => ⟨[], .nil, false⟩
theorem ok45 : okCode Try.prog sch45 (bodyOf Try.f45) = true := by kernel_rfl
theorem en45 {args : List SV} {H : SH} {K : SV → SH → Prop} (h : forceL (args ++ List.replicate (Try.f45.ntmps - args.length) (.raw undef)) fun ts => ex Try.prog sch45 (bodyOf Try.f45) ts H (retK Try.prog Try.f45.results.toList K)) : FnOb Try.prog 45 args H K := fnOb_of_ex mixed Try.func45 rfl (by decide) ok45 h
def sch46 : Nat → Sched
  | _ => ⟨[], .nil, false⟩
theorem ok46 : okCode Try.prog sch46 (bodyOf Try.f46) = true := by kernel_rfl
theorem en46 {args : List SV} {H : SH} {K : SV → SH → Prop} (h : forceL (args ++ List.replicate (Try.f46.ntmps - args.length) (.raw undef)) fun ts => ex Try.prog sch46 (bodyOf Try.f46) ts H (retK Try.prog Try.f46.results.toList K)) : FnOb Try.prog 46 args H K := fnOb_of_ex mixed Try.func46 rfl (by decide) ok46 h
def sch47 : Nat → Sched
  | _ => ⟨[], .nil, false⟩
theorem ok47 : okCode Try.prog sch47 (bodyOf Try.f47) = true := by kernel_rfl
theorem en47 {args : List SV} {H : SH} {K : SV → SH → Prop} (h : forceL (args ++ List.replicate (Try.f47.ntmps - args.length) (.raw undef)) fun ts => ex Try.prog sch47 (bodyOf Try.f47) ts H (retK Try.prog Try.f47.results.toList K)) : FnOb Try.prog 47 args H K := fnOb_of_ex mixed Try.func47 rfl (by decide) ok47 h
def sch48 : Nat → Sched
  | _ => ⟨[], .nil, false⟩
theorem ok48 : okCode Try.prog sch48 (bodyOf Try.f48) = true := by kernel_rfl
theorem en48 {args : List SV} {H : SH} {K : SV → SH → Prop} (h : forceL (args ++ List.replicate (Try.f48.ntmps - args.length) (.raw undef)) fun ts => ex Try.prog sch48 (bodyOf Try.f48) ts H (retK Try.prog Try.f48.results.toList K)) : FnOb Try.prog 48 args H K := fnOb_of_ex mixed Try.func48 rfl (by decide) ok48 h
def sch49 : Nat → Sched
  | _ => ⟨[], .nil, false⟩
theorem ok49 : okCode Try.prog sch49 (bodyOf Try.f49) = true := by kernel_rfl
theorem en49 {args : List SV} {H : SH} {K : SV → SH → Prop} (h : forceL (args ++ List.replicate (Try.f49.ntmps - args.length) (.raw undef)) fun ts => ex Try.prog sch49 (bodyOf Try.f49) ts H (retK Try.prog Try.f49.results.toList K)) : FnOb Try.prog 49 args H K := fnOb_of_ex mixed Try.func49 rfl (by decide) ok49 h
def sch50 : Nat → Sched
  | _ => ⟨[], .nil, false⟩
theorem ok50 : okCode Try.prog sch50 (bodyOf Try.f50) = true := by kernel_rfl
theorem en50 {args : List SV} {H : SH} {K : SV → SH → Prop} (h : forceL (args ++ List.replicate (Try.f50.ntmps - args.length) (.raw undef)) fun ts => ex Try.prog sch50 (bodyOf Try.f50) ts H (retK Try.prog Try.f50.results.toList K)) : FnOb Try.prog 50 args H K := fnOb_of_ex mixed Try.func50 rfl (by decide) ok50 h
def sch51 : Nat → Sched
  | _ => ⟨[], .nil, false⟩
theorem ok51 : okCode Try.prog sch51 (bodyOf Try.f51) = true := by kernel_rfl
theorem en51 {args : List SV} {H : SH} {K : SV → SH → Prop} (h : forceL (args ++ List.replicate (Try.f51.ntmps - args.length) (.raw undef)) fun ts => ex Try.prog sch51 (bodyOf Try.f51) ts H (retK Try.prog Try.f51.results.toList K)) : FnOb Try.prog 51 args H K := fnOb_of_ex mixed Try.func51 rfl (by decide) ok51 h
def sch52 : Nat → Sched
  | _ => ⟨[], .nil, false⟩
theorem ok52 : okCode Try.prog sch52 (bodyOf Try.f52) = true := by kernel_rfl
theorem en52 {args : List SV} {H : SH} {K : SV → SH → Prop} (h : forceL (args ++ List.replicate (Try.f52.ntmps - args.length) (.raw undef)) fun ts => ex Try.prog sch52 (bodyOf Try.f52) ts H (retK Try.prog Try.f52.results.toList K)) : FnOb Try.prog 52 args H K := fnOb_of_ex mixed Try.func52 rfl (by decide) ok52 h
def sch53 : Nat → Sched
  | _ => ⟨[], .nil, false⟩
theorem ok53 : okCode Try.prog sch53 (bodyOf Try.f53) = true := by kernel_rfl
theorem en53 {args : List SV} {H : SH} {K : SV → SH → Prop} (h : forceL (args ++ List.replicate (Try.f53.ntmps - args.length) (.raw undef)) fun ts => ex Try.prog sch53 (bodyOf Try.f53) ts H (retK Try.prog Try.f53.results.toList K)) : FnOb Try.prog 53 args H K := fnOb_of_ex mixed Try.func53 rfl (by decide) ok53 h
def sch54 : Nat → Sched
  | _ => ⟨[], .nil, false⟩
theorem ok54 : okCode Try.prog sch54 (bodyOf Try.f54) = true := by kernel_rfl
theorem en54 {args : List SV} {H : SH} {K : SV → SH → Prop} (h : forceL (args ++ List.replicate (Try.f54.ntmps - args.length) (.raw undef)) fun ts => ex Try.prog sch54 (bodyOf Try.f54) ts H (retK Try.prog Try.f54.results.toList K)) : FnOb Try.prog 54 args H K := fnOb_of_ex mixed Try.func54 rfl (by decide) ok54 h
def sch55 : Nat → Sched
  | _ => ⟨[], .nil, false⟩
theorem ok55 : okCode Try.prog sch55 (bodyOf Try.f55) = true := by kernel_rfl
theorem en55 {args : List SV} {H : SH} {K : SV → SH → Prop} (h : forceL (args ++ List.replicate (Try.f55.ntmps - args.length) (.raw undef)) fun ts => ex Try.prog sch55 (bodyOf Try.f55) ts H (retK Try.prog Try.f55.results.toList K)) : FnOb Try.prog 55 args H K := fnOb_of_ex mixed Try.func55 rfl (by decide) ok55 h
def sch56 : Nat → Sched
  | _ => ⟨[], .nil, false⟩
theorem ok56 : okCode Try.prog sch56 (bodyOf Try.f56) = true := by kernel_rfl
theorem en56 {args : List SV} {H : SH} {K : SV → SH → Prop} (h : forceL (args ++ List.replicate (Try.f56.ntmps - args.length) (.raw undef)) fun ts => ex Try.prog sch56 (bodyOf Try.f56) ts H (retK Try.prog Try.f56.results.toList K)) : FnOb Try.prog 56 args H K := fnOb_of_ex mixed Try.func56 rfl (by decide) ok56 h
def sch57 : Nat → Sched
  | 11 => ⟨[0, 0, 0, 6, 15, 0, 0, 96, 255], (.step 0 [] (.step 1 [] (.step 2 [] (.step 3 [] (.step 4 [] (.step 5 [] (.step 6 [] (.step 7 [] (.step 8 [] .nil))))))))), false⟩
  | 15 => ⟨[0, 0, 0, 6, 15, 0, 0, 96, 255], (.step 0 [] (.step 1 [] (.step 2 [] (.step 3 [] (.step 4 [] (.step 5 [] (.step 6 [] (.step 7 [] (.step 8 [] .nil))))))))), false⟩
  | _ => ⟨[], .nil, false⟩
theorem ok57 : okCode Try.prog sch57 (bodyOf Try.f57) = true := by kernel_rfl
theorem en57 {args : List SV} {H : SH} {K : SV → SH → Prop} (h : forceL (args ++ List.replicate (Try.f57.ntmps - args.length) (.raw undef)) fun ts => ex Try.prog sch57 (bodyOf Try.f57) ts H (retK Try.prog Try.f57.results.toList K)) : FnOb Try.prog 57 args H K := fnOb_of_ex mixed Try.func57 rfl (by decide) ok57 h
def sch58 : Nat → Sched
  | 1 => ⟨[0, 1, 3, 7, 7, 23, 55, 119, 247, 511, 1023, 2047, 4095, 8191, 16383, 32767, 4095, 131071, 262143, 524287, 4095, 1052671, 3149823, 7344127, 4095, 32509951, 66064383, 133173247, 268435455, 536870911, 1073741823, 2147483647], (.step 0 [] (.step 1 [] (.step 2 [] (.step 3 [] (.step 4 [] (.step 5 [] (.step 6 [] (.step 7 [] (.step 8 [] (.step 9 [] (.step 10 [] (.step 11 [] (.step 12 [] (.step 13 [] (.step 14 [] (.step 15 [] (.step 16 [] (.step 17 [] (.step 18 [] (.step 19 [] (.step 20 [] (.step 21 [] (.step 22 [] (.step 23 [] (.step 24 [] (.step 25 [] (.step 26 [] (.step 27 [] (.step 28 [] (.step 29 [] (.step 30 [] (.step 31 [] .nil)))))))))))))))))))))))))))))))), false⟩
  | _ => ⟨[], .nil, false⟩
theorem ok58 : okCode Try.prog sch58 (bodyOf Try.f58) = true := by kernel_rfl
theorem en58 {args : List SV} {H : SH} {K : SV → SH → Prop} (h : forceL (args ++ List.replicate (Try.f58.ntmps - args.length) (.raw undef)) fun ts => ex Try.prog sch58 (bodyOf Try.f58) ts H (retK Try.prog Try.f58.results.toList K)) : FnOb Try.prog 58 args H K := fnOb_of_ex mixed Try.func58 rfl (by decide) ok58 h
def sch59 : Nat → Sched
  | 1 => ⟨[0, 1, 3, 7, 0, 16, 48, 112, 255, 511], (.step 0 [] (.step 1 [] (.step 2 [] (.step 3 [] (.step 4 [] (.step 5 [] (.step 6 [] (.step 7 [] (.step 8 [] (.step 9 [] .nil)))))))))), false⟩
  | _ => ⟨[], .nil, false⟩
theorem ok59 : okCode Try.prog sch59 (bodyOf Try.f59) = true := by kernel_rfl
theorem en59 {args : List SV} {H : SH} {K : SV → SH → Prop} (h : forceL (args ++ List.replicate (Try.f59.ntmps - args.length) (.raw undef)) fun ts => ex Try.prog sch59 (bodyOf Try.f59) ts H (retK Try.prog Try.f59.results.toList K)) : FnOb Try.prog 59 args H K := fnOb_of_ex mixed Try.func59 rfl (by decide) ok59 h
def sch60 : Nat → Sched
  | 4 => ⟨[0, 1, 3, 7, 0, 16, 48, 112, 0, 256, 768, 1792, 4080, 0, 8192, 24576, 57344, 122880, 262128, 0, 1048575, 2097151], (.step 0 [] (.step 1 [] (.step 2 [] (.step 3 [] (.step 4 [] (.step 5 [] (.step 6 [] (.step 7 [] (.step 8 [] (.step 9 [] (.step 10 [] (.step 11 [] (.step 12 [] (.step 13 [] (.step 14 [] (.step 15 [] (.step 16 [] (.step 17 [] (.step 18 [] (.step 19 [] (.step 20 [] (.step 21 [] .nil)))))))))))))))))))))), false⟩
  | _ => ⟨[], .nil, false⟩
theorem ok60 : okCode Try.prog sch60 (bodyOf Try.f60) = true := by kernel_rfl
theorem en60 {args : List SV} {H : SH} {K : SV → SH → Prop} (h : forceL (args ++ List.replicate (Try.f60.ntmps - args.length) (.raw undef)) fun ts => ex Try.prog sch60 (bodyOf Try.f60) ts H (retK Try.prog Try.f60.results.toList K)) : FnOb Try.prog 60 args H K := fnOb_of_ex mixed Try.func60 rfl (by decide) ok60 h
def sch61 : Nat → Sched
  | _ => ⟨[], .nil, false⟩
theorem ok61 : okCode Try.prog sch61 (bodyOf Try.f61) = true := by kernel_rfl
theorem en61 {args : List SV} {H : SH} {K : SV → SH → Prop} (h : forceL (args ++ List.replicate (Try.f61.ntmps - args.length) (.raw undef)) fun ts => ex Try.prog sch61 (bodyOf Try.f61) ts H (retK Try.prog Try.f61.results.toList K)) : FnOb Try.prog 61 args H K := fnOb_of_ex mixed Try.func61 rfl (by decide) ok61 h
def sch62 : Nat → Sched
  | 3 => ⟨[0, 1, 3, 7, 0, 16, 48, 112, 255, 511], (.step 0 [] (.step 1 [] (.step 2 [] (.step 3 [] (.step 4 [] (.step 5 [] (.step 6 [] (.step 7 [] (.step 8 [] (.step 9 [] .nil)))))))))), false⟩
  | 4 => ⟨[0, 0, 2, 6, 14, 30, 0, 64, 192, 448, 960, 2046, 4095, 8191, 16383], (.step 0 [] (.step 1 [] (.step 2 [] (.step 3 [] (.step 4 [] (.step 5 [] (.step 6 [] (.step 7 [] (.step 8 [] (.step 9 [] (.step 10 [] (.step 11 [] (.step 12 [] (.step 13 [] (.step 14 [] .nil))))))))))))))), false⟩
  | _ => ⟨[], .nil, false⟩
theorem ok62 : okCode Try.prog sch62 (bodyOf Try.f62) = true := by kernel_rfl
theorem en62 {args : List SV} {H : SH} {K : SV → SH → Prop} (h : forceL (args ++ List.replicate (Try.f62.ntmps - args.length) (.raw undef)) fun ts => ex Try.prog sch62 (bodyOf Try.f62) ts H (retK Try.prog Try.f62.results.toList K)) : FnOb Try.prog 62 args H K := fnOb_of_ex mixed Try.func62 rfl (by decide) ok62 h
def sch63 : Nat → Sched
  | _ => ⟨[], .nil, false⟩
theorem ok63 : okCode Try.prog sch63 (bodyOf Try.f63) = true := by kernel_rfl
theorem en63 {args : List SV} {H : SH} {K : SV → SH → Prop} (h : forceL (args ++ List.replicate (Try.f63.ntmps - args.length) (.raw undef)) fun ts => ex Try.prog sch63 (bodyOf Try.f63) ts H (retK Try.prog Try.f63.results.toList K)) : FnOb Try.prog 63 args H K := fnOb_of_ex mixed Try.func63 rfl (by decide) ok63 h
def sch64 : Nat → Sched
  | _ => ⟨[], .nil, false⟩
theorem ok64 : okCode Try.prog sch64 (bodyOf Try.f64) = true := by kernel_rfl
theorem en64 {args : List SV} {H : SH} {K : SV → SH → Prop} (h : forceL (args ++ List.replicate (Try.f64.ntmps - args.length) (.raw undef)) fun ts => ex Try.prog sch64 (bodyOf Try.f64) ts H (retK Try.prog Try.f64.results.toList K)) : FnOb Try.prog 64 args H K := fnOb_of_ex mixed Try.func64 rfl (by decide) ok64 h
def sch65 : Nat → Sched
  | _ => ⟨[], .nil, false⟩
theorem ok65 : okCode Try.prog sch65 (bodyOf Try.f65) = true := by kernel_rfl
theorem en65 {args : List SV} {H : SH} {K : SV → SH → Prop} (h : forceL (args ++ List.replicate (Try.f65.ntmps - args.length) (.raw undef)) fun ts => ex Try.prog sch65 (bodyOf Try.f65) ts H (retK Try.prog Try.f65.results.toList K)) : FnOb Try.prog 65 args H K := fnOb_of_ex mixed Try.func65 rfl (by decide) ok65 h
-- function 66: ['region 4: 3 orders are open']
def sch66 : Nat → Sched
  | 4 => ⟨[0, 1, 3, 7, 0, 0, 0, 64, 192, 448, 0, 1984, 4032, 8128, 16352, 0, 32768, 131040, 262143, 524287, 1048575], (.step 0 [] (.step 1 [] (.step 2 [] (.step 3 [] (.step 4 [] (.step 6 [] (.step 7 [] (.step 8 [] (.step 9 [] (.step 10 [] (.step 11 [] (.step 12 [] (.step 13 [] (.step 15 [] (.alt (.step 5 [3, 9, 13, 15] (.alt (.step 14 [3, 15] (.step 16 [3, 9, 13] (.step 17 [3] (.step 18 [] (.step 19 [] (.step 20 [] .nil)))))) (.step 16 [3, 9, 13] (.step 14 [3, 15] (.step 17 [3] (.step 18 [] (.step 19 [] (.step 20 [] .nil)))))))) (.step 16 [3, 9, 13] (.step 5 [3, 9, 13, 15] (.step 14 [3, 15] (.step 17 [3] (.step 18 [] (.step 19 [] (.step 20 [] .nil)))))))))))))))))))))), true⟩
  | _ => ⟨[], .nil, false⟩
theorem ok66 : okCode Try.prog sch66 (bodyOf Try.f66) = true := by kernel_rfl
theorem en66 {args : List SV} {H : SH} {K : SV → SH → Prop} (h : forceL (args ++ List.replicate (Try.f66.ntmps - args.length) (.raw undef)) fun ts => ex Try.prog sch66 (bodyOf Try.f66) ts H (retK Try.prog Try.f66.results.toList K)) : FnOb Try.prog 66 args H K := fnOb_of_ex mixed Try.func66 rfl (by decide) ok66 h
def sch67 : Nat → Sched
  | 2 => ⟨[0, 1, 3, 7, 0, 0, 0, 64, 192, 448, 0, 1984, 4032, 8128, 16320, 32736, 65535, 131071, 262143], (.step 0 [] (.step 1 [] (.step 2 [] (.step 3 [] (.step 4 [] (.step 6 [] (.step 7 [] (.step 8 [] (.step 9 [] (.step 10 [] (.step 11 [] (.step 12 [] (.step 13 [] (.step 14 [] (.step 5 [3, 9, 13] (.step 15 [3] (.step 16 [] (.step 17 [] (.step 18 [] .nil))))))))))))))))))), false⟩
  | _ => ⟨[], .nil, false⟩
theorem ok67 : okCode Try.prog sch67 (bodyOf Try.f67) = true := by kernel_rfl
theorem en67 {args : List SV} {H : SH} {K : SV → SH → Prop} (h : forceL (args ++ List.replicate (Try.f67.ntmps - args.length) (.raw undef)) fun ts => ex Try.prog sch67 (bodyOf Try.f67) ts H (retK Try.prog Try.f67.results.toList K)) : FnOb Try.prog 67 args H K := fnOb_of_ex mixed Try.func67 rfl (by decide) ok67 h
def sch68 : Nat → Sched
  | _ => ⟨[], .nil, false⟩
theorem ok68 : okCode Try.prog sch68 (bodyOf Try.f68) = true := by kernel_rfl
theorem en68 {args : List SV} {H : SH} {K : SV → SH → Prop} (h : forceL (args ++ List.replicate (Try.f68.ntmps - args.length) (.raw undef)) fun ts => ex Try.prog sch68 (bodyOf Try.f68) ts H (retK Try.prog Try.f68.results.toList K)) : FnOb Try.prog 68 args H K := fnOb_of_ex mixed Try.func68 rfl (by decide) ok68 h
def sch69 : Nat → Sched
  | _ => ⟨[], .nil, false⟩
theorem ok69 : okCode Try.prog sch69 (bodyOf Try.f69) = true := by kernel_rfl
theorem en69 {args : List SV} {H : SH} {K : SV → SH → Prop} (h : forceL (args ++ List.replicate (Try.f69.ntmps - args.length) (.raw undef)) fun ts => ex Try.prog sch69 (bodyOf Try.f69) ts H (retK Try.prog Try.f69.results.toList K)) : FnOb Try.prog 69 args H K := fnOb_of_ex mixed Try.func69 rfl (by decide) ok69 h
def sch71 : Nat → Sched
  | _ => ⟨[], .nil, false⟩
theorem ok71 : okCode Try.prog sch71 (bodyOf Try.f71) = true := by kernel_rfl
theorem en71 {args : List SV} {H : SH} {K : SV → SH → Prop} (h : forceL (args ++ List.replicate (Try.f71.ntmps - args.length) (.raw undef)) fun ts => ex Try.prog sch71 (bodyOf Try.f71) ts H (retK Try.prog Try.f71.results.toList K)) : FnOb Try.prog 71 args H K := fnOb_of_ex mixed Try.func71 rfl (by decide) ok71 h
def sch72 : Nat → Sched
  | 3 => ⟨[0, 1, 3, 7, 0, 16, 48, 112, 255, 511, 1023, 2047], (.step 0 [] (.step 1 [] (.step 2 [] (.step 3 [] (.step 4 [] (.step 5 [] (.step 6 [] (.step 7 [] (.step 8 [] (.step 9 [] (.step 10 [] (.step 11 [] .nil)))))))))))), false⟩
  | _ => ⟨[], .nil, false⟩
theorem ok72 : okCode Try.prog sch72 (bodyOf Try.f72) = true := by kernel_rfl
theorem en72 {args : List SV} {H : SH} {K : SV → SH → Prop} (h : forceL (args ++ List.replicate (Try.f72.ntmps - args.length) (.raw undef)) fun ts => ex Try.prog sch72 (bodyOf Try.f72) ts H (retK Try.prog Try.f72.results.toList K)) : FnOb Try.prog 72 args H K := fnOb_of_ex mixed Try.func72 rfl (by decide) ok72 h
def sch73 : Nat → Sched
  | _ => ⟨[], .nil, false⟩
theorem ok73 : okCode Try.prog sch73 (bodyOf Try.f73) = true := by kernel_rfl
theorem en73 {args : List SV} {H : SH} {K : SV → SH → Prop} (h : forceL (args ++ List.replicate (Try.f73.ntmps - args.length) (.raw undef)) fun ts => ex Try.prog sch73 (bodyOf Try.f73) ts H (retK Try.prog Try.f73.results.toList K)) : FnOb Try.prog 73 args H K := fnOb_of_ex mixed Try.func73 rfl (by decide) ok73 h
def sch74 : Nat → Sched
  | _ => ⟨[], .nil, false⟩
theorem ok74 : okCode Try.prog sch74 (bodyOf Try.f74) = true := by kernel_rfl
theorem en74 {args : List SV} {H : SH} {K : SV → SH → Prop} (h : forceL (args ++ List.replicate (Try.f74.ntmps - args.length) (.raw undef)) fun ts => ex Try.prog sch74 (bodyOf Try.f74) ts H (retK Try.prog Try.f74.results.toList K)) : FnOb Try.prog 74 args H K := fnOb_of_ex mixed Try.func74 rfl (by decide) ok74 h
def sch75 : Nat → Sched
  | 3 => ⟨[0, 0, 0, 0, 0, 0, 48, 112, 0, 0, 768, 1792, 4083, 8179, 16383, 32767], (.step 0 [] (.step 1 [] (.step 2 [] (.step 3 [] (.step 4 [] (.step 5 [] (.step 6 [] (.step 7 [] (.step 8 [] (.step 9 [] (.step 10 [] (.step 11 [] (.step 12 [] (.step 13 [] (.step 14 [] (.step 15 [] .nil)))))))))))))))), false⟩
  | _ => ⟨[], .nil, false⟩
theorem ok75 : okCode Try.prog sch75 (bodyOf Try.f75) = true := by kernel_rfl
theorem en75 {args : List SV} {H : SH} {K : SV → SH → Prop} (h : forceL (args ++ List.replicate (Try.f75.ntmps - args.length) (.raw undef)) fun ts => ex Try.prog sch75 (bodyOf Try.f75) ts H (retK Try.prog Try.f75.results.toList K)) : FnOb Try.prog 75 args H K := fnOb_of_ex mixed Try.func75 rfl (by decide) ok75 h
end Go.Proofs.Ythimgonpkhoodaa
