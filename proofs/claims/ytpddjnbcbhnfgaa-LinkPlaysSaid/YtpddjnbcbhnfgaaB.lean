/- The seat's functions: in which order each region that draws is walked (by a program of this session's), and the door to each function's code. Own work. -/
import Derived.Test.YtpddjnbcbhnfgaaSyN
import Derived.Test.YtpddjnbcbhnfgaaChecked
namespace Go.Proofs.Ytpddjnbcbhnfgaa
open Go Go.Sy
set_option maxRecDepth 100000
theorem mixed : Try.prog.follows .mixedOrders = true := by kernel_rfl
def bodyOf (f : Func) : Code := match f.body with | some c => c | none => .skip
def sch3 : Nat → Sched
  | _ => ⟨[], .nil, false⟩
theorem ok3 : okCode Try.prog sch3 (bodyOf Try.f3) = true := by kernel_rfl
theorem en3 {args : List SV} {H : SH} {K : SV → SH → Prop} (h : forceL (args ++ List.replicate (Try.f3.ntmps - args.length) (.raw undef)) fun ts => ex Try.prog sch3 (bodyOf Try.f3) ts H (retK Try.prog Try.f3.results.toList K)) : FnOb Try.prog 3 args H K := fnOb_of_ex mixed Try.func3 rfl (by decide) ok3 h
def sch4 : Nat → Sched
  | _ => ⟨[], .nil, false⟩
theorem ok4 : okCode Try.prog sch4 (bodyOf Try.f4) = true := by kernel_rfl
theorem en4 {args : List SV} {H : SH} {K : SV → SH → Prop} (h : forceL (args ++ List.replicate (Try.f4.ntmps - args.length) (.raw undef)) fun ts => ex Try.prog sch4 (bodyOf Try.f4) ts H (retK Try.prog Try.f4.results.toList K)) : FnOb Try.prog 4 args H K := fnOb_of_ex mixed Try.func4 rfl (by decide) ok4 h
def sch5 : Nat → Sched
  | 26 => ⟨[0, 0, 2, 7, 0, 0, 32, 127, 255], (.step 0 [] (.step 1 [] (.step 2 [] (.step 4 [] (.step 5 [] (.step 6 [] (.step 3 [6] (.step 7 [] (.step 8 [] .nil))))))))), false⟩
  | 37 => ⟨[0, 1, 0, 4, 12, 28, 60, 127, 255, 511, 1023, 511, 2559, 6655, 14847, 32767, 65535], (.step 0 [] (.step 2 [] (.step 3 [] (.step 4 [] (.step 5 [] (.step 6 [] (.step 1 [5] (.step 7 [] (.step 8 [] (.step 9 [] (.step 11 [] (.step 12 [] (.step 13 [] (.step 14 [] (.step 10 [14] (.step 15 [] (.step 16 [] .nil))))))))))))))))), false⟩
  | _ => ⟨[], .nil, false⟩
theorem ok5 : okCode Try.prog sch5 (bodyOf Try.f5) = true := by kernel_rfl
theorem en5 {args : List SV} {H : SH} {K : SV → SH → Prop} (h : forceL (args ++ List.replicate (Try.f5.ntmps - args.length) (.raw undef)) fun ts => ex Try.prog sch5 (bodyOf Try.f5) ts H (retK Try.prog Try.f5.results.toList K)) : FnOb Try.prog 5 args H K := fnOb_of_ex mixed Try.func5 rfl (by decide) ok5 h
def sch6 : Nat → Sched
  | 51 => ⟨[0, 0, 0, 6, 15, 0, 0, 64, 224, 511, 1023], (.step 1 [] (.step 2 [] (.step 3 [] (.step 5 [] (.step 6 [] (.step 7 [] (.step 8 [] (.step 0 [] (.step 4 [] (.step 9 [] (.step 10 [] .nil))))))))))), false⟩
  | _ => ⟨[], .nil, false⟩
theorem ok6 : okCode Try.prog sch6 (bodyOf Try.f6) = true := by kernel_rfl
theorem en6 {args : List SV} {H : SH} {K : SV → SH → Prop} (h : forceL (args ++ List.replicate (Try.f6.ntmps - args.length) (.raw undef)) fun ts => ex Try.prog sch6 (bodyOf Try.f6) ts H (retK Try.prog Try.f6.results.toList K)) : FnOb Try.prog 6 args H K := fnOb_of_ex mixed Try.func6 rfl (by decide) ok6 h
def sch7 : Nat → Sched
  | _ => ⟨[], .nil, false⟩
theorem ok7 : okCode Try.prog sch7 (bodyOf Try.f7) = true := by kernel_rfl
theorem en7 {args : List SV} {H : SH} {K : SV → SH → Prop} (h : forceL (args ++ List.replicate (Try.f7.ntmps - args.length) (.raw undef)) fun ts => ex Try.prog sch7 (bodyOf Try.f7) ts H (retK Try.prog Try.f7.results.toList K)) : FnOb Try.prog 7 args H K := fnOb_of_ex mixed Try.func7 rfl (by decide) ok7 h
def sch8 : Nat → Sched
  | _ => ⟨[], .nil, false⟩
theorem ok8 : okCode Try.prog sch8 (bodyOf Try.f8) = true := by kernel_rfl
theorem en8 {args : List SV} {H : SH} {K : SV → SH → Prop} (h : forceL (args ++ List.replicate (Try.f8.ntmps - args.length) (.raw undef)) fun ts => ex Try.prog sch8 (bodyOf Try.f8) ts H (retK Try.prog Try.f8.results.toList K)) : FnOb Try.prog 8 args H K := fnOb_of_ex mixed Try.func8 rfl (by decide) ok8 h
def sch9 : Nat → Sched
  | _ => ⟨[], .nil, false⟩
theorem ok9 : okCode Try.prog sch9 (bodyOf Try.f9) = true := by kernel_rfl
theorem en9 {args : List SV} {H : SH} {K : SV → SH → Prop} (h : forceL (args ++ List.replicate (Try.f9.ntmps - args.length) (.raw undef)) fun ts => ex Try.prog sch9 (bodyOf Try.f9) ts H (retK Try.prog Try.f9.results.toList K)) : FnOb Try.prog 9 args H K := fnOb_of_ex mixed Try.func9 rfl (by decide) ok9 h
def sch10 : Nat → Sched
  | _ => ⟨[], .nil, false⟩
theorem ok10 : okCode Try.prog sch10 (bodyOf Try.f10) = true := by kernel_rfl
theorem en10 {args : List SV} {H : SH} {K : SV → SH → Prop} (h : forceL (args ++ List.replicate (Try.f10.ntmps - args.length) (.raw undef)) fun ts => ex Try.prog sch10 (bodyOf Try.f10) ts H (retK Try.prog Try.f10.results.toList K)) : FnOb Try.prog 10 args H K := fnOb_of_ex mixed Try.func10 rfl (by decide) ok10 h
def sch11 : Nat → Sched
  | 1 => ⟨[0, 1, 3, 7, 15, 31, 63, 127, 255, 511, 1023, 2047, 4095, 8191, 16383, 32767, 4095, 69631, 200703, 462847, 987135, 2097151, 4194303, 8388607], (.step 0 [] (.step 1 [] (.step 2 [] (.step 3 [] (.step 4 [] (.step 5 [] (.step 6 [] (.step 7 [] (.step 8 [] (.step 9 [] (.step 10 [] (.step 11 [] (.step 12 [] (.step 13 [] (.step 14 [] (.step 15 [] (.step 16 [] (.step 17 [] (.step 18 [] (.step 19 [] (.step 20 [] (.step 21 [] (.step 22 [] (.step 23 [] .nil)))))))))))))))))))))))), false⟩
  | _ => ⟨[], .nil, false⟩
theorem ok11 : okCode Try.prog sch11 (bodyOf Try.f11) = true := by kernel_rfl
theorem en11 {args : List SV} {H : SH} {K : SV → SH → Prop} (h : forceL (args ++ List.replicate (Try.f11.ntmps - args.length) (.raw undef)) fun ts => ex Try.prog sch11 (bodyOf Try.f11) ts H (retK Try.prog Try.f11.results.toList K)) : FnOb Try.prog 11 args H K := fnOb_of_ex mixed Try.func11 rfl (by decide) ok11 h
def sch12 : Nat → Sched
  | 5 => ⟨[0, 1, 3, 7, 0, 16, 48, 112, 240, 0, 512, 1536, 3584, 8176, 16383, 32767, 0], (.step 0 [] (.step 1 [] (.step 2 [] (.step 3 [] (.step 4 [] (.step 5 [] (.step 6 [] (.step 7 [] (.step 8 [] (.step 9 [] (.step 10 [] (.step 11 [] (.step 12 [] (.step 13 [] (.step 14 [] (.step 15 [] (.step 16 [] .nil))))))))))))))))), false⟩
  | 9 => ⟨[0, 1, 3, 7, 15, 31, 63, 63, 191, 447, 959, 1983, 4095, 63, 8255, 24639, 57407, 131071, 262143], (.step 0 [] (.step 1 [] (.step 2 [] (.step 3 [] (.step 4 [] (.step 5 [] (.step 6 [] (.step 7 [] (.step 8 [] (.step 9 [] (.step 10 [] (.step 11 [] (.step 12 [] (.step 13 [] (.step 14 [] (.step 15 [] (.step 16 [] (.step 17 [] (.step 18 [] .nil))))))))))))))))))), false⟩
  | 11 => ⟨[0, 0, 2, 6, 14, 0, 32, 96, 224, 0, 992, 0, 2048, 6144, 14336, 32766, 65534, 131070, 262143, 524287], (.step 0 [] (.step 1 [] (.step 2 [] (.step 3 [] (.step 4 [] (.step 5 [] (.step 6 [] (.step 7 [] (.step 8 [] (.step 9 [] (.step 10 [] (.step 11 [] (.step 12 [] (.step 13 [] (.step 14 [] (.step 15 [] (.step 16 [] (.step 17 [] (.step 18 [] (.step 19 [] .nil)))))))))))))))))))), false⟩
  | _ => ⟨[], .nil, false⟩
theorem ok12 : okCode Try.prog sch12 (bodyOf Try.f12) = true := by kernel_rfl
theorem en12 {args : List SV} {H : SH} {K : SV → SH → Prop} (h : forceL (args ++ List.replicate (Try.f12.ntmps - args.length) (.raw undef)) fun ts => ex Try.prog sch12 (bodyOf Try.f12) ts H (retK Try.prog Try.f12.results.toList K)) : FnOb Try.prog 12 args H K := fnOb_of_ex mixed Try.func12 rfl (by decide) ok12 h
def sch13 : Nat → Sched
  | 4 => ⟨[0, 1, 0, 4, 12, 28, 63, 127], (.step 0 [] (.step 1 [] (.step 2 [] (.step 3 [] (.step 4 [] (.step 5 [] (.step 6 [] (.step 7 [] .nil)))))))), false⟩
  | 6 => ⟨[0, 1, 3, 7, 0, 16, 63, 127, 255, 255, 511, 2047], (.step 0 [] (.step 1 [] (.step 2 [] (.step 3 [] (.step 4 [] (.step 5 [] (.step 6 [] (.step 7 [] (.step 8 [] (.step 9 [] (.step 10 [] (.step 11 [] .nil)))))))))))), false⟩
  | 7 => ⟨[0, 1, 3, 7, 15, 7, 39, 103, 231, 7, 519, 1543, 3591, 7, 8199, 24583, 57351, 130567, 261639, 524287, 1048575], (.step 0 [] (.step 1 [] (.step 2 [] (.step 3 [] (.step 4 [] (.step 5 [] (.step 6 [] (.step 7 [] (.step 8 [] (.step 9 [] (.step 10 [] (.step 11 [] (.step 12 [] (.step 13 [] (.step 14 [] (.step 15 [] (.step 16 [] (.step 17 [] (.step 18 [] (.step 19 [] (.step 20 [] .nil))))))))))))))))))))), false⟩
  | 8 => ⟨[0, 1, 3, 7, 0, 16, 0, 64, 255], (.step 0 [] (.step 1 [] (.step 2 [] (.step 3 [] (.step 4 [] (.step 5 [] (.step 6 [] (.step 7 [] (.step 8 [] .nil))))))))), false⟩
  | 9 => ⟨[0, 1, 3, 7, 0, 16, 48, 112, 255, 511, 1023, 1023, 2047, 8191], (.step 0 [] (.step 1 [] (.step 2 [] (.step 3 [] (.step 4 [] (.step 5 [] (.step 6 [] (.step 7 [] (.step 8 [] (.step 9 [] (.step 10 [] (.step 11 [] (.step 12 [] (.step 13 [] .nil)))))))))))))), false⟩
  | 11 => ⟨[0, 0, 2, 6, 14, 0, 32, 96, 224, 510, 1022, 2047, 4095, 8191], (.step 0 [] (.step 1 [] (.step 2 [] (.step 3 [] (.step 4 [] (.step 5 [] (.step 6 [] (.step 7 [] (.step 8 [] (.step 9 [] (.step 10 [] (.step 11 [] (.step 12 [] (.step 13 [] .nil)))))))))))))), false⟩
  | 13 => ⟨[0, 1, 3, 7, 0, 16, 48, 112, 255], (.step 0 [] (.step 1 [] (.step 2 [] (.step 3 [] (.step 4 [] (.step 5 [] (.step 6 [] (.step 7 [] (.step 8 [] .nil))))))))), false⟩
  | _ => ⟨[], .nil, false⟩
theorem ok13 : okCode Try.prog sch13 (bodyOf Try.f13) = true := by kernel_rfl
theorem en13 {args : List SV} {H : SH} {K : SV → SH → Prop} (h : forceL (args ++ List.replicate (Try.f13.ntmps - args.length) (.raw undef)) fun ts => ex Try.prog sch13 (bodyOf Try.f13) ts H (retK Try.prog Try.f13.results.toList K)) : FnOb Try.prog 13 args H K := fnOb_of_ex mixed Try.func13 rfl (by decide) ok13 h
def sch14 : Nat → Sched
  | 4 => ⟨[0, 1, 0, 4, 12, 28, 63, 127], (.step 0 [] (.step 1 [] (.step 2 [] (.step 3 [] (.step 4 [] (.step 5 [] (.step 6 [] (.step 7 [] .nil)))))))), false⟩
  | 6 => ⟨[0, 1, 0, 4, 12, 28, 0, 64, 192, 448, 960, 2044, 4095, 8191], (.step 0 [] (.step 1 [] (.step 2 [] (.step 3 [] (.step 4 [] (.step 5 [] (.step 6 [] (.step 7 [] (.step 8 [] (.step 9 [] (.step 10 [] (.step 11 [] (.step 12 [] (.step 13 [] .nil)))))))))))))), false⟩
  | 8 => ⟨[0, 1, 0, 4, 12, 28, 63, 127], (.step 0 [] (.step 1 [] (.step 2 [] (.step 3 [] (.step 4 [] (.step 5 [] (.step 6 [] (.step 7 [] .nil)))))))), false⟩
  | 10 => ⟨[0, 0, 0, 4, 12, 28, 0, 124, 0, 256, 253, 1277, 3325, 8191, 16383, 32767], (.step 0 [] (.step 1 [] (.step 2 [] (.step 3 [] (.step 4 [] (.step 5 [] (.step 6 [] (.step 7 [] (.step 8 [] (.step 9 [] (.step 10 [] (.step 11 [] (.step 12 [9] (.step 13 [] (.step 14 [] (.step 15 [] .nil)))))))))))))))), false⟩
  | _ => ⟨[], .nil, false⟩
theorem ok14 : okCode Try.prog sch14 (bodyOf Try.f14) = true := by kernel_rfl
theorem en14 {args : List SV} {H : SH} {K : SV → SH → Prop} (h : forceL (args ++ List.replicate (Try.f14.ntmps - args.length) (.raw undef)) fun ts => ex Try.prog sch14 (bodyOf Try.f14) ts H (retK Try.prog Try.f14.results.toList K)) : FnOb Try.prog 14 args H K := fnOb_of_ex mixed Try.func14 rfl (by decide) ok14 h
def sch15 : Nat → Sched
  | _ => ⟨[], .nil, false⟩
theorem ok15 : okCode Try.prog sch15 (bodyOf Try.f15) = true := by kernel_rfl
theorem en15 {args : List SV} {H : SH} {K : SV → SH → Prop} (h : forceL (args ++ List.replicate (Try.f15.ntmps - args.length) (.raw undef)) fun ts => ex Try.prog sch15 (bodyOf Try.f15) ts H (retK Try.prog Try.f15.results.toList K)) : FnOb Try.prog 15 args H K := fnOb_of_ex mixed Try.func15 rfl (by decide) ok15 h
def sch16 : Nat → Sched
  | _ => ⟨[], .nil, false⟩
theorem ok16 : okCode Try.prog sch16 (bodyOf Try.f16) = true := by kernel_rfl
theorem en16 {args : List SV} {H : SH} {K : SV → SH → Prop} (h : forceL (args ++ List.replicate (Try.f16.ntmps - args.length) (.raw undef)) fun ts => ex Try.prog sch16 (bodyOf Try.f16) ts H (retK Try.prog Try.f16.results.toList K)) : FnOb Try.prog 16 args H K := fnOb_of_ex mixed Try.func16 rfl (by decide) ok16 h
def sch17 : Nat → Sched
  | _ => ⟨[], .nil, false⟩
theorem ok17 : okCode Try.prog sch17 (bodyOf Try.f17) = true := by kernel_rfl
theorem en17 {args : List SV} {H : SH} {K : SV → SH → Prop} (h : forceL (args ++ List.replicate (Try.f17.ntmps - args.length) (.raw undef)) fun ts => ex Try.prog sch17 (bodyOf Try.f17) ts H (retK Try.prog Try.f17.results.toList K)) : FnOb Try.prog 17 args H K := fnOb_of_ex mixed Try.func17 rfl (by decide) ok17 h
def sch18 : Nat → Sched
  | 1 => ⟨[0, 1, 3, 7, 15, 31, 63, 127, 255, 511, 1023, 2047, 4095, 8191, 16383, 32767, 4095, 69631, 200703, 462847, 987135, 2097151, 4194303, 8388607], (.step 0 [] (.step 1 [] (.step 2 [] (.step 3 [] (.step 4 [] (.step 5 [] (.step 6 [] (.step 7 [] (.step 8 [] (.step 9 [] (.step 10 [] (.step 11 [] (.step 12 [] (.step 13 [] (.step 14 [] (.step 15 [] (.step 16 [] (.step 17 [] (.step 18 [] (.step 19 [] (.step 20 [] (.step 21 [] (.step 22 [] (.step 23 [] .nil)))))))))))))))))))))))), false⟩
  | _ => ⟨[], .nil, false⟩
theorem ok18 : okCode Try.prog sch18 (bodyOf Try.f18) = true := by kernel_rfl
theorem en18 {args : List SV} {H : SH} {K : SV → SH → Prop} (h : forceL (args ++ List.replicate (Try.f18.ntmps - args.length) (.raw undef)) fun ts => ex Try.prog sch18 (bodyOf Try.f18) ts H (retK Try.prog Try.f18.results.toList K)) : FnOb Try.prog 18 args H K := fnOb_of_ex mixed Try.func18 rfl (by decide) ok18 h
def sch19 : Nat → Sched
  | 8 => ⟨[0, 1, 3, 7, 0, 31, 63, 127, 255, 511, 511, 1535, 3583, 7679, 511, 32255, 65023, 130559, 262143, 511, 524799, 1573375, 3670527, 8388607, 16777215], (.step 0 [] (.step 1 [] (.step 2 [] (.step 3 [] (.step 4 [] (.step 5 [] (.step 6 [] (.step 7 [] (.step 8 [] (.step 9 [] (.step 10 [] (.step 11 [] (.step 12 [] (.step 13 [] (.step 14 [] (.step 15 [] (.step 16 [] (.step 17 [] (.step 18 [] (.step 19 [] (.step 20 [] (.step 21 [] (.step 22 [] (.step 23 [] (.step 24 [] .nil))))))))))))))))))))))))), false⟩
  | 11 => ⟨[0, 0, 2, 6, 14, 0, 32, 96, 224, 0, 992, 0, 2048, 6144, 14336, 0, 63488, 129024, 260096, 524286, 1048574, 2097151, 4194303], (.step 0 [] (.step 1 [] (.step 2 [] (.step 3 [] (.step 4 [] (.step 5 [] (.step 6 [] (.step 7 [] (.step 8 [] (.step 9 [] (.step 10 [] (.step 11 [] (.step 12 [] (.step 13 [] (.step 14 [] (.step 15 [] (.step 16 [] (.step 17 [] (.step 18 [] (.step 19 [] (.step 20 [] (.step 21 [] (.step 22 [] .nil))))))))))))))))))))))), false⟩
  | _ => ⟨[], .nil, false⟩
theorem ok19 : okCode Try.prog sch19 (bodyOf Try.f19) = true := by kernel_rfl
theorem en19 {args : List SV} {H : SH} {K : SV → SH → Prop} (h : forceL (args ++ List.replicate (Try.f19.ntmps - args.length) (.raw undef)) fun ts => ex Try.prog sch19 (bodyOf Try.f19) ts H (retK Try.prog Try.f19.results.toList K)) : FnOb Try.prog 19 args H K := fnOb_of_ex mixed Try.func19 rfl (by decide) ok19 h
def sch20 : Nat → Sched
  | 6 => ⟨[0, 0, 3, 7, 0, 0, 48, 112, 255], (.step 0 [] (.step 1 [] (.step 2 [] (.step 3 [] (.step 4 [] (.step 5 [] (.step 6 [] (.step 7 [] (.step 8 [] .nil))))))))), false⟩
  | _ => ⟨[], .nil, false⟩
theorem ok20 : okCode Try.prog sch20 (bodyOf Try.f20) = true := by kernel_rfl
theorem en20 {args : List SV} {H : SH} {K : SV → SH → Prop} (h : forceL (args ++ List.replicate (Try.f20.ntmps - args.length) (.raw undef)) fun ts => ex Try.prog sch20 (bodyOf Try.f20) ts H (retK Try.prog Try.f20.results.toList K)) : FnOb Try.prog 20 args H K := fnOb_of_ex mixed Try.func20 rfl (by decide) ok20 h
def sch21 : Nat → Sched
  | 6 => ⟨[0, 0, 2, 6, 14, 0, 32, 96, 224, 480, 1022, 2047], (.step 0 [] (.step 1 [] (.step 2 [] (.step 3 [] (.step 4 [] (.step 5 [] (.step 6 [] (.step 7 [] (.step 8 [] (.step 9 [] (.step 10 [] (.step 11 [] .nil)))))))))))), false⟩
  | _ => ⟨[], .nil, false⟩
theorem ok21 : okCode Try.prog sch21 (bodyOf Try.f21) = true := by kernel_rfl
theorem en21 {args : List SV} {H : SH} {K : SV → SH → Prop} (h : forceL (args ++ List.replicate (Try.f21.ntmps - args.length) (.raw undef)) fun ts => ex Try.prog sch21 (bodyOf Try.f21) ts H (retK Try.prog Try.f21.results.toList K)) : FnOb Try.prog 21 args H K := fnOb_of_ex mixed Try.func21 rfl (by decide) ok21 h
-- function 22: ['region 7: 3 orders are open']
def sch22 : Nat → Sched
  | 6 => ⟨[0, 0, 2, 6, 14, 31, 63, 127, 127, 383, 895, 1919, 127, 4223, 12415, 28799, 65407, 131071, 262143, 524287, 1048575, 1048575, 4194303, 8388607, 16777215], (.step 0 [] (.step 1 [] (.step 2 [] (.step 3 [] (.step 4 [] (.step 5 [] (.step 6 [] (.step 7 [] (.step 8 [] (.step 9 [] (.step 10 [] (.step 11 [] (.step 12 [] (.step 13 [] (.step 14 [] (.step 15 [] (.step 16 [] (.step 17 [] (.step 18 [] (.step 19 [] (.step 20 [] (.step 21 [] (.step 22 [] (.step 23 [] (.step 24 [] .nil))))))))))))))))))))))))), false⟩
  | 7 => ⟨[0, 0, 0, 4, 12, 28, 62, 0, 0, 256, 768, 1792, 3968, 8064, 16382, 32767, 65535, 131071], (.step 0 [] (.step 2 [] (.step 3 [] (.step 4 [] (.step 5 [] (.step 7 [] (.step 8 [] (.step 9 [] (.step 10 [] (.step 11 [] (.step 12 [] (.alt (.step 1 [5, 11] (.alt (.step 6 [11] (.step 13 [5] (.step 14 [] (.step 15 [] (.step 16 [] (.step 17 [] .nil)))))) (.step 13 [5] (.step 6 [11] (.step 14 [] (.step 15 [] (.step 16 [] (.step 17 [] .nil)))))))) (.step 13 [5] (.step 1 [5, 11] (.step 6 [11] (.step 14 [] (.step 15 [] (.step 16 [] (.step 17 [] .nil))))))))))))))))))), true⟩
  | 13 => ⟨[0, 0, 0, 4, 12, 28, 0, 124, 254, 0, 512, 1536, 3584, 0, 8192, 32256, 65534, 131071, 262143, 524287], (.step 0 [] (.step 2 [] (.step 3 [] (.step 4 [] (.step 5 [] (.step 6 [] (.step 7 [] (.step 9 [] (.step 10 [] (.step 11 [] (.step 12 [] (.step 13 [] (.step 14 [] (.step 15 [] (.step 1 [5, 12] (.step 8 [12] (.step 16 [] (.step 17 [] (.step 18 [] (.step 19 [] .nil)))))))))))))))))))), false⟩
  | 15 => ⟨[0, 0, 2, 6, 14, 0, 32, 96, 224, 510, 1023, 2047, 4095], (.step 0 [] (.step 1 [] (.step 2 [] (.step 3 [] (.step 4 [] (.step 5 [] (.step 6 [] (.step 7 [] (.step 8 [] (.step 9 [] (.step 10 [] (.step 11 [] (.step 12 [] .nil))))))))))))), false⟩
  | _ => ⟨[], .nil, false⟩
theorem ok22 : okCode Try.prog sch22 (bodyOf Try.f22) = true := by kernel_rfl
theorem en22 {args : List SV} {H : SH} {K : SV → SH → Prop} (h : forceL (args ++ List.replicate (Try.f22.ntmps - args.length) (.raw undef)) fun ts => ex Try.prog sch22 (bodyOf Try.f22) ts H (retK Try.prog Try.f22.results.toList K)) : FnOb Try.prog 22 args H K := fnOb_of_ex mixed Try.func22 rfl (by decide) ok22 h
def sch23 : Nat → Sched
  | _ => ⟨[], .nil, false⟩
theorem ok23 : okCode Try.prog sch23 (bodyOf Try.f23) = true := by kernel_rfl
theorem en23 {args : List SV} {H : SH} {K : SV → SH → Prop} (h : forceL (args ++ List.replicate (Try.f23.ntmps - args.length) (.raw undef)) fun ts => ex Try.prog sch23 (bodyOf Try.f23) ts H (retK Try.prog Try.f23.results.toList K)) : FnOb Try.prog 23 args H K := fnOb_of_ex mixed Try.func23 rfl (by decide) ok23 h
def sch24 : Nat → Sched
  | _ => ⟨[], .nil, false⟩
theorem ok24 : okCode Try.prog sch24 (bodyOf Try.f24) = true := by kernel_rfl
theorem en24 {args : List SV} {H : SH} {K : SV → SH → Prop} (h : forceL (args ++ List.replicate (Try.f24.ntmps - args.length) (.raw undef)) fun ts => ex Try.prog sch24 (bodyOf Try.f24) ts H (retK Try.prog Try.f24.results.toList K)) : FnOb Try.prog 24 args H K := fnOb_of_ex mixed Try.func24 rfl (by decide) ok24 h
def sch25 : Nat → Sched
  | 1 => ⟨[0, 1, 3, 0, 8, 31, 0, 64, 255, 511, 1023], (.step 0 [] (.step 1 [] (.step 3 [] (.step 4 [] (.step 6 [] (.step 7 [] (.step 2 [4, 7] (.step 5 [7] (.step 8 [] (.step 9 [] (.step 10 [] .nil))))))))))), false⟩
  | _ => ⟨[], .nil, false⟩
theorem ok25 : okCode Try.prog sch25 (bodyOf Try.f25) = true := by kernel_rfl
theorem en25 {args : List SV} {H : SH} {K : SV → SH → Prop} (h : forceL (args ++ List.replicate (Try.f25.ntmps - args.length) (.raw undef)) fun ts => ex Try.prog sch25 (bodyOf Try.f25) ts H (retK Try.prog Try.f25.results.toList K)) : FnOb Try.prog 25 args H K := fnOb_of_ex mixed Try.func25 rfl (by decide) ok25 h
def sch26 : Nat → Sched
  | 4 => ⟨[0, 0, 2, 6, 14, 0, 32, 96, 224, 511, 0, 2047], (.step 0 [] (.step 1 [] (.step 2 [] (.step 3 [] (.step 4 [] (.step 5 [] (.step 6 [] (.step 7 [] (.step 8 [] (.step 9 [] (.step 10 [4, 8] (.step 11 [] .nil)))))))))))), false⟩
  | 7 => ⟨[0, 0, 2, 6, 14, 30, 62, 30, 254, 510, 1022, 2046, 4094, 8190, 16382, 32766, 65534, 131070, 262142, 131070, 1048574, 2097150, 524287, 8388607], (.step 0 [] (.step 1 [] (.step 2 [] (.step 3 [0] (.step 4 [] (.step 5 [] (.step 6 [] (.step 7 [] (.step 8 [0] (.step 9 [] (.step 10 [] (.step 11 [] (.step 12 [] (.step 13 [] (.step 14 [] (.step 15 [] (.step 16 [] (.step 17 [] (.step 19 [] (.step 18 [0] (.step 20 [] (.step 21 [] (.step 22 [] (.step 23 [] .nil)))))))))))))))))))))))), false⟩
  | _ => ⟨[], .nil, false⟩
theorem ok26 : okCode Try.prog sch26 (bodyOf Try.f26) = true := by kernel_rfl
theorem en26 {args : List SV} {H : SH} {K : SV → SH → Prop} (h : forceL (args ++ List.replicate (Try.f26.ntmps - args.length) (.raw undef)) fun ts => ex Try.prog sch26 (bodyOf Try.f26) ts H (retK Try.prog Try.f26.results.toList K)) : FnOb Try.prog 26 args H K := fnOb_of_ex mixed Try.func26 rfl (by decide) ok26 h
def sch27 : Nat → Sched
  | _ => ⟨[], .nil, false⟩
theorem ok27 : okCode Try.prog sch27 (bodyOf Try.f27) = true := by kernel_rfl
theorem en27 {args : List SV} {H : SH} {K : SV → SH → Prop} (h : forceL (args ++ List.replicate (Try.f27.ntmps - args.length) (.raw undef)) fun ts => ex Try.prog sch27 (bodyOf Try.f27) ts H (retK Try.prog Try.f27.results.toList K)) : FnOb Try.prog 27 args H K := fnOb_of_ex mixed Try.func27 rfl (by decide) ok27 h
def sch28 : Nat → Sched
  | 6 => ⟨[0, 1, 3, 7, 0, 16, 48, 112, 0, 15, 767, 2047, 4095], (.step 0 [] (.step 1 [] (.step 2 [] (.step 3 [] (.step 4 [] (.step 5 [] (.step 6 [] (.step 7 [] (.step 8 [] (.step 9 [7] (.step 10 [] (.step 11 [] (.step 12 [] .nil))))))))))))), false⟩
  | _ => ⟨[], .nil, false⟩
theorem ok28 : okCode Try.prog sch28 (bodyOf Try.f28) = true := by kernel_rfl
theorem en28 {args : List SV} {H : SH} {K : SV → SH → Prop} (h : forceL (args ++ List.replicate (Try.f28.ntmps - args.length) (.raw undef)) fun ts => ex Try.prog sch28 (bodyOf Try.f28) ts H (retK Try.prog Try.f28.results.toList K)) : FnOb Try.prog 28 args H K := fnOb_of_ex mixed Try.func28 rfl (by decide) ok28 h
def sch29 : Nat → Sched
  | _ => ⟨[], .nil, false⟩
theorem ok29 : okCode Try.prog sch29 (bodyOf Try.f29) = true := by kernel_rfl
theorem en29 {args : List SV} {H : SH} {K : SV → SH → Prop} (h : forceL (args ++ List.replicate (Try.f29.ntmps - args.length) (.raw undef)) fun ts => ex Try.prog sch29 (bodyOf Try.f29) ts H (retK Try.prog Try.f29.results.toList K)) : FnOb Try.prog 29 args H K := fnOb_of_ex mixed Try.func29 rfl (by decide) ok29 h
def sch30 : Nat → Sched
  | _ => ⟨[], .nil, false⟩
theorem ok30 : okCode Try.prog sch30 (bodyOf Try.f30) = true := by kernel_rfl
theorem en30 {args : List SV} {H : SH} {K : SV → SH → Prop} (h : forceL (args ++ List.replicate (Try.f30.ntmps - args.length) (.raw undef)) fun ts => ex Try.prog sch30 (bodyOf Try.f30) ts H (retK Try.prog Try.f30.results.toList K)) : FnOb Try.prog 30 args H K := fnOb_of_ex mixed Try.func30 rfl (by decide) ok30 h
def sch31 : Nat → Sched
  | _ => ⟨[], .nil, false⟩
theorem ok31 : okCode Try.prog sch31 (bodyOf Try.f31) = true := by kernel_rfl
theorem en31 {args : List SV} {H : SH} {K : SV → SH → Prop} (h : forceL (args ++ List.replicate (Try.f31.ntmps - args.length) (.raw undef)) fun ts => ex Try.prog sch31 (bodyOf Try.f31) ts H (retK Try.prog Try.f31.results.toList K)) : FnOb Try.prog 31 args H K := fnOb_of_ex mixed Try.func31 rfl (by decide) ok31 h
def sch32 : Nat → Sched
  | 14 => ⟨[0, 0, 3, 0, 8, 24, 63, 0, 128, 511, 1023], (.step 0 [] (.step 3 [] (.step 4 [] (.step 5 [] (.step 7 [] (.step 8 [] (.step 1 [4, 8] (.step 2 [4, 8] (.step 6 [8] (.step 9 [] (.step 10 [] .nil))))))))))), false⟩
  | 15 => ⟨[0, 0, 3, 0, 8, 31, 63], (.step 0 [] (.step 3 [] (.step 4 [] (.step 1 [4] (.step 2 [4] (.step 5 [] (.step 6 [] .nil))))))), false⟩
  | _ => ⟨[], .nil, false⟩
theorem ok32 : okCode Try.prog sch32 (bodyOf Try.f32) = true := by kernel_rfl
theorem en32 {args : List SV} {H : SH} {K : SV → SH → Prop} (h : forceL (args ++ List.replicate (Try.f32.ntmps - args.length) (.raw undef)) fun ts => ex Try.prog sch32 (bodyOf Try.f32) ts H (retK Try.prog Try.f32.results.toList K)) : FnOb Try.prog 32 args H K := fnOb_of_ex mixed Try.func32 rfl (by decide) ok32 h
def sch33 : Nat → Sched
  | _ => ⟨[], .nil, false⟩
theorem ok33 : okCode Try.prog sch33 (bodyOf Try.f33) = true := by kernel_rfl
theorem en33 {args : List SV} {H : SH} {K : SV → SH → Prop} (h : forceL (args ++ List.replicate (Try.f33.ntmps - args.length) (.raw undef)) fun ts => ex Try.prog sch33 (bodyOf Try.f33) ts H (retK Try.prog Try.f33.results.toList K)) : FnOb Try.prog 33 args H K := fnOb_of_ex mixed Try.func33 rfl (by decide) ok33 h
def sch34 : Nat → Sched
  | _ => ⟨[], .nil, false⟩
theorem ok34 : okCode Try.prog sch34 (bodyOf Try.f34) = true := by kernel_rfl
theorem en34 {args : List SV} {H : SH} {K : SV → SH → Prop} (h : forceL (args ++ List.replicate (Try.f34.ntmps - args.length) (.raw undef)) fun ts => ex Try.prog sch34 (bodyOf Try.f34) ts H (retK Try.prog Try.f34.results.toList K)) : FnOb Try.prog 34 args H K := fnOb_of_ex mixed Try.func34 rfl (by decide) ok34 h
def sch35 : Nat → Sched
  | _ => ⟨[], .nil, false⟩
theorem ok35 : okCode Try.prog sch35 (bodyOf Try.f35) = true := by kernel_rfl
theorem en35 {args : List SV} {H : SH} {K : SV → SH → Prop} (h : forceL (args ++ List.replicate (Try.f35.ntmps - args.length) (.raw undef)) fun ts => ex Try.prog sch35 (bodyOf Try.f35) ts H (retK Try.prog Try.f35.results.toList K)) : FnOb Try.prog 35 args H K := fnOb_of_ex mixed Try.func35 rfl (by decide) ok35 h
def sch36 : Nat → Sched
  | _ => ⟨[], .nil, false⟩
theorem ok36 : okCode Try.prog sch36 (bodyOf Try.f36) = true := by kernel_rfl
theorem en36 {args : List SV} {H : SH} {K : SV → SH → Prop} (h : forceL (args ++ List.replicate (Try.f36.ntmps - args.length) (.raw undef)) fun ts => ex Try.prog sch36 (bodyOf Try.f36) ts H (retK Try.prog Try.f36.results.toList K)) : FnOb Try.prog 36 args H K := fnOb_of_ex mixed Try.func36 rfl (by decide) ok36 h
def sch37 : Nat → Sched
  | 1 => ⟨[0, 1, 3, 7, 0, 16, 48, 112, 255, 511], (.step 0 [] (.step 1 [] (.step 2 [] (.step 3 [] (.step 4 [] (.step 5 [] (.step 6 [] (.step 7 [] (.step 8 [] (.step 9 [] .nil)))))))))), false⟩
  | 12 => ⟨[0, 1, 3, 7, 15, 0, 32, 96, 224, 511, 0, 2047, 4095], (.step 0 [] (.step 1 [] (.step 2 [] (.step 3 [] (.step 4 [] (.step 5 [] (.step 6 [] (.step 7 [] (.step 8 [] (.step 9 [] (.step 10 [] (.step 11 [] (.step 12 [] .nil))))))))))))), false⟩
  | 14 => ⟨[0, 1, 3, 7, 0, 16, 48, 112, 0, 256, 768, 1792, 0, 7936, 16383, 32767, 65535], (.step 0 [] (.step 1 [] (.step 2 [] (.step 3 [] (.step 4 [] (.step 5 [] (.step 6 [] (.step 7 [] (.step 8 [] (.step 9 [] (.step 10 [] (.step 11 [] (.step 12 [] (.step 13 [] (.step 14 [] (.step 15 [] (.step 16 [] .nil))))))))))))))))), false⟩
  | _ => ⟨[], .nil, false⟩
theorem ok37 : okCode Try.prog sch37 (bodyOf Try.f37) = true := by kernel_rfl
theorem en37 {args : List SV} {H : SH} {K : SV → SH → Prop} (h : forceL (args ++ List.replicate (Try.f37.ntmps - args.length) (.raw undef)) fun ts => ex Try.prog sch37 (bodyOf Try.f37) ts H (retK Try.prog Try.f37.results.toList K)) : FnOb Try.prog 37 args H K := fnOb_of_ex mixed Try.func37 rfl (by decide) ok37 h
def sch38 : Nat → Sched
  | 2 => ⟨[0, 1, 3, 7, 15, 0, 32, 127, 255], (.step 0 [] (.step 1 [] (.step 2 [] (.step 5 [] (.step 6 [] (.step 3 [6] (.step 4 [] (.step 7 [] (.step 8 [] .nil))))))))), false⟩
  | _ => ⟨[], .nil, false⟩
theorem ok38 : okCode Try.prog sch38 (bodyOf Try.f38) = true := by kernel_rfl
theorem en38 {args : List SV} {H : SH} {K : SV → SH → Prop} (h : forceL (args ++ List.replicate (Try.f38.ntmps - args.length) (.raw undef)) fun ts => ex Try.prog sch38 (bodyOf Try.f38) ts H (retK Try.prog Try.f38.results.toList K)) : FnOb Try.prog 38 args H K := fnOb_of_ex mixed Try.func38 rfl (by decide) ok38 h
def sch39 : Nat → Sched
  | _ => ⟨[], .nil, false⟩
theorem ok39 : okCode Try.prog sch39 (bodyOf Try.f39) = true := by kernel_rfl
theorem en39 {args : List SV} {H : SH} {K : SV → SH → Prop} (h : forceL (args ++ List.replicate (Try.f39.ntmps - args.length) (.raw undef)) fun ts => ex Try.prog sch39 (bodyOf Try.f39) ts H (retK Try.prog Try.f39.results.toList K)) : FnOb Try.prog 39 args H K := fnOb_of_ex mixed Try.func39 rfl (by decide) ok39 h
def sch40 : Nat → Sched
  | _ => ⟨[], .nil, false⟩
theorem ok40 : okCode Try.prog sch40 (bodyOf Try.f40) = true := by kernel_rfl
theorem en40 {args : List SV} {H : SH} {K : SV → SH → Prop} (h : forceL (args ++ List.replicate (Try.f40.ntmps - args.length) (.raw undef)) fun ts => ex Try.prog sch40 (bodyOf Try.f40) ts H (retK Try.prog Try.f40.results.toList K)) : FnOb Try.prog 40 args H K := fnOb_of_ex mixed Try.func40 rfl (by decide) ok40 h
def sch41 : Nat → Sched
  | _ => ⟨[], .nil, false⟩
theorem ok41 : okCode Try.prog sch41 (bodyOf Try.f41) = true := by kernel_rfl
theorem en41 {args : List SV} {H : SH} {K : SV → SH → Prop} (h : forceL (args ++ List.replicate (Try.f41.ntmps - args.length) (.raw undef)) fun ts => ex Try.prog sch41 (bodyOf Try.f41) ts H (retK Try.prog Try.f41.results.toList K)) : FnOb Try.prog 41 args H K := fnOb_of_ex mixed Try.func41 rfl (by decide) ok41 h
def sch42 : Nat → Sched
  | 4 => ⟨[0, 1, 3, 7, 0, 16, 48, 112, 240, 511], (.step 0 [] (.step 1 [] (.step 2 [] (.step 3 [] (.step 4 [] (.step 5 [] (.step 6 [] (.step 7 [] (.step 8 [] (.step 9 [] .nil)))))))))), false⟩
  | 6 => ⟨[0, 1, 3, 7, 0, 16, 48, 112, 255, 511], (.step 0 [] (.step 1 [] (.step 2 [] (.step 3 [] (.step 4 [] (.step 5 [] (.step 6 [] (.step 7 [] (.step 8 [] (.step 9 [] .nil)))))))))), false⟩
  | _ => ⟨[], .nil, false⟩
theorem ok42 : okCode Try.prog sch42 (bodyOf Try.f42) = true := by kernel_rfl
theorem en42 {args : List SV} {H : SH} {K : SV → SH → Prop} (h : forceL (args ++ List.replicate (Try.f42.ntmps - args.length) (.raw undef)) fun ts => ex Try.prog sch42 (bodyOf Try.f42) ts H (retK Try.prog Try.f42.results.toList K)) : FnOb Try.prog 42 args H K := fnOb_of_ex mixed Try.func42 rfl (by decide) ok42 h
def sch43 : Nat → Sched
  | _ => ⟨[], .nil, false⟩
theorem ok43 : okCode Try.prog sch43 (bodyOf Try.f43) = true := by kernel_rfl
theorem en43 {args : List SV} {H : SH} {K : SV → SH → Prop} (h : forceL (args ++ List.replicate (Try.f43.ntmps - args.length) (.raw undef)) fun ts => ex Try.prog sch43 (bodyOf Try.f43) ts H (retK Try.prog Try.f43.results.toList K)) : FnOb Try.prog 43 args H K := fnOb_of_ex mixed Try.func43 rfl (by decide) ok43 h
def sch44 : Nat → Sched
  | _ => ⟨[], .nil, false⟩
theorem ok44 : okCode Try.prog sch44 (bodyOf Try.f44) = true := by kernel_rfl
theorem en44 {args : List SV} {H : SH} {K : SV → SH → Prop} (h : forceL (args ++ List.replicate (Try.f44.ntmps - args.length) (.raw undef)) fun ts => ex Try.prog sch44 (bodyOf Try.f44) ts H (retK Try.prog Try.f44.results.toList K)) : FnOb Try.prog 44 args H K := fnOb_of_ex mixed Try.func44 rfl (by decide) ok44 h
def sch45 : Nat → Sched
  | _ => ⟨[], .nil, false⟩
theorem ok45 : okCode Try.prog sch45 (bodyOf Try.f45) = true := by kernel_rfl
theorem en45 {args : List SV} {H : SH} {K : SV → SH → Prop} (h : forceL (args ++ List.replicate (Try.f45.ntmps - args.length) (.raw undef)) fun ts => ex Try.prog sch45 (bodyOf Try.f45) ts H (retK Try.prog Try.f45.results.toList K)) : FnOb Try.prog 45 args H K := fnOb_of_ex mixed Try.func45 rfl (by decide) ok45 h
def sch46 : Nat → Sched
  | _ => ⟨[], .nil, false⟩
theorem ok46 : okCode Try.prog sch46 (bodyOf Try.f46) = true := by kernel_rfl
theorem en46 {args : List SV} {H : SH} {K : SV → SH → Prop} (h : forceL (args ++ List.replicate (Try.f46.ntmps - args.length) (.raw undef)) fun ts => ex Try.prog sch46 (bodyOf Try.f46) ts H (retK Try.prog Try.f46.results.toList K)) : FnOb Try.prog 46 args H K := fnOb_of_ex mixed Try.func46 rfl (by decide) ok46 h
def sch47 : Nat → Sched
  | _ => ⟨[], .nil, false⟩
theorem ok47 : okCode Try.prog sch47 (bodyOf Try.f47) = true := by kernel_rfl
theorem en47 {args : List SV} {H : SH} {K : SV → SH → Prop} (h : forceL (args ++ List.replicate (Try.f47.ntmps - args.length) (.raw undef)) fun ts => ex Try.prog sch47 (bodyOf Try.f47) ts H (retK Try.prog Try.f47.results.toList K)) : FnOb Try.prog 47 args H K := fnOb_of_ex mixed Try.func47 rfl (by decide) ok47 h
end Go.Proofs.Ytpddjnbcbhnfgaa
