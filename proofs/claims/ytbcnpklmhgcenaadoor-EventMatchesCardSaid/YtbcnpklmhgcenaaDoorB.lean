/- The seat's functions: in which order each region that draws is walked (by a program of this session's), and the door to each function's code. Own work. -/
import Derived.Test.YtbcnpklmhgcenaaDoorSyN
import Derived.Test.YtbcnpklmhgcenaaDoorChecked
namespace Go.Proofs.YtbcnpklmhgcenaaDoor
open Go Go.Sy
set_option maxRecDepth 100000
theorem mixed : Tryd.prog.follows .mixedOrders = true := by kernel_rfl
def bodyOf (f : Func) : Code := match f.body with | some c => c | none => .skip
def sch3 : Nat → Sched
  | _ => ⟨[], .nil, false⟩
theorem ok3 : okCode Tryd.prog sch3 (bodyOf Tryd.f3) = true := by kernel_rfl
theorem en3 {args : List SV} {H : SH} {K : SV → SH → Prop} (h : forceL (args ++ List.replicate (Tryd.f3.ntmps - args.length) (.raw undef)) fun ts => ex Tryd.prog sch3 (bodyOf Tryd.f3) ts H (retK Tryd.prog Tryd.f3.results.toList K)) : FnOb Tryd.prog 3 args H K := fnOb_of_ex mixed Tryd.func3 rfl (by decide) ok3 h
def sch4 : Nat → Sched
  | _ => ⟨[], .nil, false⟩
theorem ok4 : okCode Tryd.prog sch4 (bodyOf Tryd.f4) = true := by kernel_rfl
theorem en4 {args : List SV} {H : SH} {K : SV → SH → Prop} (h : forceL (args ++ List.replicate (Tryd.f4.ntmps - args.length) (.raw undef)) fun ts => ex Tryd.prog sch4 (bodyOf Tryd.f4) ts H (retK Tryd.prog Tryd.f4.results.toList K)) : FnOb Tryd.prog 4 args H K := fnOb_of_ex mixed Tryd.func4 rfl (by decide) ok4 h
def sch5 : Nat → Sched
  | 20 => ⟨[0, 0, 3, 7, 0, 0, 48, 112, 255, 511, 1023, 1023, 2047, 8191], (.step 0 [] (.step 1 [] (.step 2 [] (.step 3 [] (.step 4 [] (.step 5 [] (.step 6 [] (.step 7 [] (.step 8 [] (.step 9 [] (.step 10 [] (.step 11 [] (.step 12 [] (.step 13 [] .nil)))))))))))))), false⟩
  | 24 => ⟨[0, 0, 2, 7, 15, 0, 0, 96, 224, 511, 1023, 2047, 2047, 4095, 16383], (.step 0 [] (.step 1 [] (.step 2 [] (.step 3 [] (.step 4 [] (.step 5 [] (.step 6 [] (.step 7 [] (.step 8 [] (.step 9 [] (.step 10 [] (.step 11 [] (.step 12 [] (.step 13 [] (.step 14 [] .nil))))))))))))))), false⟩
  | _ => ⟨[], .nil, false⟩
theorem ok5 : okCode Tryd.prog sch5 (bodyOf Tryd.f5) = true := by kernel_rfl
theorem en5 {args : List SV} {H : SH} {K : SV → SH → Prop} (h : forceL (args ++ List.replicate (Tryd.f5.ntmps - args.length) (.raw undef)) fun ts => ex Tryd.prog sch5 (bodyOf Tryd.f5) ts H (retK Tryd.prog Tryd.f5.results.toList K)) : FnOb Tryd.prog 5 args H K := fnOb_of_ex mixed Tryd.func5 rfl (by decide) ok5 h
-- function 6: ['region 6: 2 orders are open']
def sch6 : Nat → Sched
  | 6 => ⟨[0, 1, 3, 0, 8, 24, 0, 0, 199, 511], (.step 0 [] (.step 1 [] (.step 2 [] (.step 3 [] (.step 4 [] (.step 5 [] (.alt (.step 6 [1, 4] (.step 7 [1, 4] (.step 8 [4] (.step 9 [] .nil)))) (.step 7 [1, 4] (.step 6 [1, 4] (.step 8 [4] (.step 9 [] .nil))))))))))), true⟩
  | 10 => ⟨[0, 1, 0, 0, 12, 28, 63, 127, 255], (.step 0 [] (.step 1 [] (.step 3 [] (.step 2 [1] (.step 4 [1] (.step 5 [1] (.step 6 [] (.step 7 [] (.step 8 [] .nil))))))))), false⟩
  | 20 => ⟨[0, 1, 0, 7, 15, 0, 32, 0, 224, 480, 992, 2016, 4095, 8191, 16383], (.step 0 [] (.step 1 [] (.step 2 [] (.step 3 [] (.step 4 [] (.step 5 [] (.step 6 [] (.step 7 [] (.step 8 [] (.step 9 [] (.step 10 [] (.step 11 [] (.step 12 [] (.step 13 [] (.step 14 [] .nil))))))))))))))), false⟩
  | 21 => ⟨[0, 1, 0, 0, 8, 0, 56, 120, 0, 0, 768, 1792, 4088, 8191, 16383], (.step 0 [] (.step 1 [] (.step 2 [] (.step 3 [] (.step 4 [] (.step 5 [] (.step 6 [] (.step 7 [] (.step 8 [] (.step 9 [] (.step 10 [] (.step 11 [1, 4, 7] (.step 12 [1] (.step 13 [] (.step 14 [] .nil))))))))))))))), false⟩
  | _ => ⟨[], .nil, false⟩
theorem ok6 : okCode Tryd.prog sch6 (bodyOf Tryd.f6) = true := by kernel_rfl
theorem en6 {args : List SV} {H : SH} {K : SV → SH → Prop} (h : forceL (args ++ List.replicate (Tryd.f6.ntmps - args.length) (.raw undef)) fun ts => ex Tryd.prog sch6 (bodyOf Tryd.f6) ts H (retK Tryd.prog Tryd.f6.results.toList K)) : FnOb Tryd.prog 6 args H K := fnOb_of_ex mixed Tryd.func6 rfl (by decide) ok6 h
def sch7 : Nat → Sched
  | 5 => ⟨[0, 1, 3, 1, 15, 31, 63, 127, 255, 255, 1023, 2047, 4095, 8191, 8191, 32767, 65535, 131071, 262143, 262143, 1048575, 2097151, 4194303, 8388607, 8388607, 33554431, 67108863, 134217727, 268435455, 536870911, 1073741823], (.step 0 [] (.step 1 [] (.step 3 [] (.step 2 [3] (.step 4 [] (.step 5 [] (.step 6 [] (.step 7 [] (.step 8 [] (.step 9 [] (.step 10 [] (.step 11 [] (.step 12 [] (.step 13 [] (.step 14 [] (.step 15 [] (.step 16 [] (.step 17 [] (.step 18 [] (.step 19 [] (.step 20 [] (.step 21 [] (.step 22 [] (.step 23 [] (.step 24 [] (.step 25 [] (.step 26 [] (.step 27 [] (.step 28 [] (.step 29 [] (.step 30 [] .nil))))))))))))))))))))))))))))))), false⟩
  | _ => ⟨[], .nil, false⟩
theorem ok7 : okCode Tryd.prog sch7 (bodyOf Tryd.f7) = true := by kernel_rfl
theorem en7 {args : List SV} {H : SH} {K : SV → SH → Prop} (h : forceL (args ++ List.replicate (Tryd.f7.ntmps - args.length) (.raw undef)) fun ts => ex Tryd.prog sch7 (bodyOf Tryd.f7) ts H (retK Tryd.prog Tryd.f7.results.toList K)) : FnOb Tryd.prog 7 args H K := fnOb_of_ex mixed Tryd.func7 rfl (by decide) ok7 h
def sch8 : Nat → Sched
  | 6 => ⟨[0, 1, 0, 7, 15, 31, 63, 63, 255, 511, 1023, 2047, 2047, 8191, 16383, 32767, 65535, 65535, 262143, 524287, 1048575, 2097151, 4194303, 4194303, 16777215, 33554431], (.step 0 [] (.step 2 [] (.step 1 [2] (.step 3 [] (.step 4 [] (.step 5 [] (.step 6 [] (.step 7 [] (.step 8 [] (.step 9 [] (.step 10 [] (.step 11 [] (.step 12 [] (.step 13 [] (.step 14 [] (.step 15 [] (.step 16 [] (.step 17 [] (.step 18 [] (.step 19 [] (.step 20 [] (.step 21 [] (.step 22 [] (.step 23 [] (.step 24 [] (.step 25 [] .nil)))))))))))))))))))))))))), false⟩
  | _ => ⟨[], .nil, false⟩
theorem ok8 : okCode Tryd.prog sch8 (bodyOf Tryd.f8) = true := by kernel_rfl
theorem en8 {args : List SV} {H : SH} {K : SV → SH → Prop} (h : forceL (args ++ List.replicate (Tryd.f8.ntmps - args.length) (.raw undef)) fun ts => ex Tryd.prog sch8 (bodyOf Tryd.f8) ts H (retK Tryd.prog Tryd.f8.results.toList K)) : FnOb Tryd.prog 8 args H K := fnOb_of_ex mixed Tryd.func8 rfl (by decide) ok8 h
def sch9 : Nat → Sched
  | _ => ⟨[], .nil, false⟩
theorem ok9 : okCode Tryd.prog sch9 (bodyOf Tryd.f9) = true := by kernel_rfl
theorem en9 {args : List SV} {H : SH} {K : SV → SH → Prop} (h : forceL (args ++ List.replicate (Tryd.f9.ntmps - args.length) (.raw undef)) fun ts => ex Tryd.prog sch9 (bodyOf Tryd.f9) ts H (retK Tryd.prog Tryd.f9.results.toList K)) : FnOb Tryd.prog 9 args H K := fnOb_of_ex mixed Tryd.func9 rfl (by decide) ok9 h
def sch10 : Nat → Sched
  | 1 => ⟨[0, 1, 0, 7, 15, 31, 63], (.step 0 [] (.step 2 [] (.step 1 [2] (.step 3 [] (.step 4 [] (.step 5 [] (.step 6 [] .nil))))))), false⟩
  | 4 => ⟨[0, 1, 0, 7, 15, 0, 32, 0, 128, 511, 0, 1024, 0, 4096, 16383, 32767, 65535, 131071, 262143], (.step 0 [] (.step 2 [] (.step 5 [] (.step 6 [] (.step 7 [] (.step 8 [] (.step 10 [] (.step 11 [] (.step 12 [] (.step 13 [] (.step 1 [2, 6, 8, 11, 13] (.step 3 [6, 8, 11, 13] (.step 4 [6, 8, 11, 13] (.step 9 [11, 13] (.step 14 [] (.step 15 [] (.step 16 [] (.step 17 [] (.step 18 [] .nil))))))))))))))))))), false⟩
  | _ => ⟨[], .nil, false⟩
theorem ok10 : okCode Tryd.prog sch10 (bodyOf Tryd.f10) = true := by kernel_rfl
theorem en10 {args : List SV} {H : SH} {K : SV → SH → Prop} (h : forceL (args ++ List.replicate (Tryd.f10.ntmps - args.length) (.raw undef)) fun ts => ex Tryd.prog sch10 (bodyOf Tryd.f10) ts H (retK Tryd.prog Tryd.f10.results.toList K)) : FnOb Tryd.prog 10 args H K := fnOb_of_ex mixed Tryd.func10 rfl (by decide) ok10 h
def sch11 : Nat → Sched
  | _ => ⟨[], .nil, false⟩
theorem ok11 : okCode Tryd.prog sch11 (bodyOf Tryd.f11) = true := by kernel_rfl
theorem en11 {args : List SV} {H : SH} {K : SV → SH → Prop} (h : forceL (args ++ List.replicate (Tryd.f11.ntmps - args.length) (.raw undef)) fun ts => ex Tryd.prog sch11 (bodyOf Tryd.f11) ts H (retK Tryd.prog Tryd.f11.results.toList K)) : FnOb Tryd.prog 11 args H K := fnOb_of_ex mixed Tryd.func11 rfl (by decide) ok11 h
def sch12 : Nat → Sched
  | _ => ⟨[], .nil, false⟩
theorem ok12 : okCode Tryd.prog sch12 (bodyOf Tryd.f12) = true := by kernel_rfl
theorem en12 {args : List SV} {H : SH} {K : SV → SH → Prop} (h : forceL (args ++ List.replicate (Tryd.f12.ntmps - args.length) (.raw undef)) fun ts => ex Tryd.prog sch12 (bodyOf Tryd.f12) ts H (retK Tryd.prog Tryd.f12.results.toList K)) : FnOb Tryd.prog 12 args H K := fnOb_of_ex mixed Tryd.func12 rfl (by decide) ok12 h
def sch13 : Nat → Sched
  | 6 => ⟨[0, 1, 0, 7, 15, 0, 32, 0, 224, 480, 1023, 2047], (.step 0 [] (.step 1 [] (.step 2 [] (.step 3 [] (.step 4 [] (.step 5 [] (.step 6 [] (.step 7 [] (.step 8 [] (.step 9 [] (.step 10 [] (.step 11 [] .nil)))))))))))), false⟩
  | _ => ⟨[], .nil, false⟩
theorem ok13 : okCode Tryd.prog sch13 (bodyOf Tryd.f13) = true := by kernel_rfl
theorem en13 {args : List SV} {H : SH} {K : SV → SH → Prop} (h : forceL (args ++ List.replicate (Tryd.f13.ntmps - args.length) (.raw undef)) fun ts => ex Tryd.prog sch13 (bodyOf Tryd.f13) ts H (retK Tryd.prog Tryd.f13.results.toList K)) : FnOb Tryd.prog 13 args H K := fnOb_of_ex mixed Tryd.func13 rfl (by decide) ok13 h
def sch14 : Nat → Sched
  | _ => ⟨[], .nil, false⟩
theorem ok14 : okCode Tryd.prog sch14 (bodyOf Tryd.f14) = true := by kernel_rfl
theorem en14 {args : List SV} {H : SH} {K : SV → SH → Prop} (h : forceL (args ++ List.replicate (Tryd.f14.ntmps - args.length) (.raw undef)) fun ts => ex Tryd.prog sch14 (bodyOf Tryd.f14) ts H (retK Tryd.prog Tryd.f14.results.toList K)) : FnOb Tryd.prog 14 args H K := fnOb_of_ex mixed Tryd.func14 rfl (by decide) ok14 h
-- function 15: ['region 6: 3 orders are open']
def sch15 : Nat → Sched
  | 3 => ⟨[0, 0, 3, 7, 0, 31, 63, 127, 127, 255, 1023], (.step 0 [] (.step 1 [] (.step 2 [] (.step 3 [] (.step 4 [] (.step 5 [] (.step 6 [] (.step 7 [] (.step 8 [] (.step 9 [] (.step 10 [] .nil))))))))))), false⟩
  | 6 => ⟨[0, 0, 0, 6, 15, 0, 32, 127, 0, 0, 768, 2047, 4095], (.step 1 [] (.step 2 [] (.step 3 [] (.step 5 [] (.step 8 [] (.step 9 [] (.step 10 [] (.alt (.step 0 [5] (.alt (.step 4 [5] (.step 6 [] (.step 7 [] (.step 11 [] (.step 12 [] .nil))))) (.step 6 [] (.step 4 [5] (.step 7 [] (.step 11 [] (.step 12 [] .nil))))))) (.step 6 [] (.step 0 [5] (.step 4 [5] (.step 7 [] (.step 11 [] (.step 12 [] .nil)))))))))))))), true⟩
  | _ => ⟨[], .nil, false⟩
theorem ok15 : okCode Tryd.prog sch15 (bodyOf Tryd.f15) = true := by kernel_rfl
theorem en15 {args : List SV} {H : SH} {K : SV → SH → Prop} (h : forceL (args ++ List.replicate (Tryd.f15.ntmps - args.length) (.raw undef)) fun ts => ex Tryd.prog sch15 (bodyOf Tryd.f15) ts H (retK Tryd.prog Tryd.f15.results.toList K)) : FnOb Tryd.prog 15 args H K := fnOb_of_ex mixed Tryd.func15 rfl (by decide) ok15 h
def sch16 : Nat → Sched
  | 4 => ⟨[0, 1, 3, 0, 8, 31, 63, 127], (.step 0 [] (.step 1 [] (.step 3 [] (.step 4 [] (.step 2 [4] (.step 5 [] (.step 6 [] (.step 7 [] .nil)))))))), false⟩
  | _ => ⟨[], .nil, false⟩
theorem ok16 : okCode Tryd.prog sch16 (bodyOf Tryd.f16) = true := by kernel_rfl
theorem en16 {args : List SV} {H : SH} {K : SV → SH → Prop} (h : forceL (args ++ List.replicate (Tryd.f16.ntmps - args.length) (.raw undef)) fun ts => ex Tryd.prog sch16 (bodyOf Tryd.f16) ts H (retK Tryd.prog Tryd.f16.results.toList K)) : FnOb Tryd.prog 16 args H K := fnOb_of_ex mixed Tryd.func16 rfl (by decide) ok16 h
def sch17 : Nat → Sched
  | _ => ⟨[], .nil, false⟩
theorem ok17 : okCode Tryd.prog sch17 (bodyOf Tryd.f17) = true := by kernel_rfl
theorem en17 {args : List SV} {H : SH} {K : SV → SH → Prop} (h : forceL (args ++ List.replicate (Tryd.f17.ntmps - args.length) (.raw undef)) fun ts => ex Tryd.prog sch17 (bodyOf Tryd.f17) ts H (retK Tryd.prog Tryd.f17.results.toList K)) : FnOb Tryd.prog 17 args H K := fnOb_of_ex mixed Tryd.func17 rfl (by decide) ok17 h
def sch18 : Nat → Sched
  | 6 => ⟨[0, 1, 3, 7, 0, 16, 48, 112, 0, 256, 768, 1792, 4095, 0, 16383], (.step 0 [] (.step 1 [] (.step 2 [] (.step 3 [] (.step 4 [] (.step 5 [] (.step 6 [] (.step 7 [] (.step 8 [] (.step 9 [] (.step 10 [] (.step 11 [] (.step 12 [] (.step 13 [3, 7, 11] (.step 14 [] .nil))))))))))))))), false⟩
  | _ => ⟨[], .nil, false⟩
theorem ok18 : okCode Tryd.prog sch18 (bodyOf Tryd.f18) = true := by kernel_rfl
theorem en18 {args : List SV} {H : SH} {K : SV → SH → Prop} (h : forceL (args ++ List.replicate (Tryd.f18.ntmps - args.length) (.raw undef)) fun ts => ex Tryd.prog sch18 (bodyOf Tryd.f18) ts H (retK Tryd.prog Tryd.f18.results.toList K)) : FnOb Tryd.prog 18 args H K := fnOb_of_ex mixed Tryd.func18 rfl (by decide) ok18 h
def sch19 : Nat → Sched
  | 7 => ⟨[0, 1, 3, 7, 0, 16, 48, 112, 0, 256, 768, 1792, 4095, 0, 16383], (.step 0 [] (.step 1 [] (.step 2 [] (.step 3 [] (.step 4 [] (.step 5 [] (.step 6 [] (.step 7 [] (.step 8 [] (.step 9 [] (.step 10 [] (.step 11 [] (.step 12 [] (.step 13 [3, 7, 11] (.step 14 [] .nil))))))))))))))), false⟩
  | _ => ⟨[], .nil, false⟩
theorem ok19 : okCode Tryd.prog sch19 (bodyOf Tryd.f19) = true := by kernel_rfl
theorem en19 {args : List SV} {H : SH} {K : SV → SH → Prop} (h : forceL (args ++ List.replicate (Tryd.f19.ntmps - args.length) (.raw undef)) fun ts => ex Tryd.prog sch19 (bodyOf Tryd.f19) ts H (retK Tryd.prog Tryd.f19.results.toList K)) : FnOb Tryd.prog 19 args H K := fnOb_of_ex mixed Tryd.func19 rfl (by decide) ok19 h
def sch20 : Nat → Sched
  | _ => ⟨[], .nil, false⟩
theorem ok20 : okCode Tryd.prog sch20 (bodyOf Tryd.f20) = true := by kernel_rfl
theorem en20 {args : List SV} {H : SH} {K : SV → SH → Prop} (h : forceL (args ++ List.replicate (Tryd.f20.ntmps - args.length) (.raw undef)) fun ts => ex Tryd.prog sch20 (bodyOf Tryd.f20) ts H (retK Tryd.prog Tryd.f20.results.toList K)) : FnOb Tryd.prog 20 args H K := fnOb_of_ex mixed Tryd.func20 rfl (by decide) ok20 h
def sch21 : Nat → Sched
  | _ => ⟨[], .nil, false⟩
theorem ok21 : okCode Tryd.prog sch21 (bodyOf Tryd.f21) = true := by kernel_rfl
theorem en21 {args : List SV} {H : SH} {K : SV → SH → Prop} (h : forceL (args ++ List.replicate (Tryd.f21.ntmps - args.length) (.raw undef)) fun ts => ex Tryd.prog sch21 (bodyOf Tryd.f21) ts H (retK Tryd.prog Tryd.f21.results.toList K)) : FnOb Tryd.prog 21 args H K := fnOb_of_ex mixed Tryd.func21 rfl (by decide) ok21 h
def sch22 : Nat → Sched
  | 5 => ⟨[0, 1, 0, 0, 8, 0, 56, 120, 252, 508, 1023, 2047, 4095], (.step 0 [] (.step 1 [] (.step 3 [] (.step 4 [] (.step 5 [] (.step 6 [] (.step 7 [] (.step 2 [1, 4, 7] (.step 8 [1] (.step 9 [1] (.step 10 [] (.step 11 [] (.step 12 [] .nil))))))))))))), false⟩
  | _ => ⟨[], .nil, false⟩
theorem ok22 : okCode Tryd.prog sch22 (bodyOf Tryd.f22) = true := by kernel_rfl
theorem en22 {args : List SV} {H : SH} {K : SV → SH → Prop} (h : forceL (args ++ List.replicate (Tryd.f22.ntmps - args.length) (.raw undef)) fun ts => ex Tryd.prog sch22 (bodyOf Tryd.f22) ts H (retK Tryd.prog Tryd.f22.results.toList K)) : FnOb Tryd.prog 22 args H K := fnOb_of_ex mixed Tryd.func22 rfl (by decide) ok22 h
def sch23 : Nat → Sched
  | 4 => ⟨[0, 1, 3, 0, 8, 24, 63, 127, 255], (.step 0 [] (.step 1 [] (.step 3 [] (.step 4 [] (.step 5 [] (.step 2 [4] (.step 6 [] (.step 7 [] (.step 8 [] .nil))))))))), false⟩
  | _ => ⟨[], .nil, false⟩
theorem ok23 : okCode Tryd.prog sch23 (bodyOf Tryd.f23) = true := by kernel_rfl
theorem en23 {args : List SV} {H : SH} {K : SV → SH → Prop} (h : forceL (args ++ List.replicate (Tryd.f23.ntmps - args.length) (.raw undef)) fun ts => ex Tryd.prog sch23 (bodyOf Tryd.f23) ts H (retK Tryd.prog Tryd.f23.results.toList K)) : FnOb Tryd.prog 23 args H K := fnOb_of_ex mixed Tryd.func23 rfl (by decide) ok23 h
def sch24 : Nat → Sched
  | _ => ⟨[], .nil, false⟩
theorem ok24 : okCode Tryd.prog sch24 (bodyOf Tryd.f24) = true := by kernel_rfl
theorem en24 {args : List SV} {H : SH} {K : SV → SH → Prop} (h : forceL (args ++ List.replicate (Tryd.f24.ntmps - args.length) (.raw undef)) fun ts => ex Tryd.prog sch24 (bodyOf Tryd.f24) ts H (retK Tryd.prog Tryd.f24.results.toList K)) : FnOb Tryd.prog 24 args H K := fnOb_of_ex mixed Tryd.func24 rfl (by decide) ok24 h
def sch25 : Nat → Sched
  | _ => ⟨[], .nil, false⟩
theorem ok25 : okCode Tryd.prog sch25 (bodyOf Tryd.f25) = true := by kernel_rfl
theorem en25 {args : List SV} {H : SH} {K : SV → SH → Prop} (h : forceL (args ++ List.replicate (Tryd.f25.ntmps - args.length) (.raw undef)) fun ts => ex Tryd.prog sch25 (bodyOf Tryd.f25) ts H (retK Tryd.prog Tryd.f25.results.toList K)) : FnOb Tryd.prog 25 args H K := fnOb_of_ex mixed Tryd.func25 rfl (by decide) ok25 h
def sch26 : Nat → Sched
  | _ => ⟨[], .nil, false⟩
theorem ok26 : okCode Tryd.prog sch26 (bodyOf Tryd.f26) = true := by kernel_rfl
theorem en26 {args : List SV} {H : SH} {K : SV → SH → Prop} (h : forceL (args ++ List.replicate (Tryd.f26.ntmps - args.length) (.raw undef)) fun ts => ex Tryd.prog sch26 (bodyOf Tryd.f26) ts H (retK Tryd.prog Tryd.f26.results.toList K)) : FnOb Tryd.prog 26 args H K := fnOb_of_ex mixed Tryd.func26 rfl (by decide) ok26 h
def sch27 : Nat → Sched
  | _ => ⟨[], .nil, false⟩
theorem ok27 : okCode Tryd.prog sch27 (bodyOf Tryd.f27) = true := by kernel_rfl
theorem en27 {args : List SV} {H : SH} {K : SV → SH → Prop} (h : forceL (args ++ List.replicate (Tryd.f27.ntmps - args.length) (.raw undef)) fun ts => ex Tryd.prog sch27 (bodyOf Tryd.f27) ts H (retK Tryd.prog Tryd.f27.results.toList K)) : FnOb Tryd.prog 27 args H K := fnOb_of_ex mixed Tryd.func27 rfl (by decide) ok27 h
def sch28 : Nat → Sched
  | _ => ⟨[], .nil, false⟩
theorem ok28 : okCode Tryd.prog sch28 (bodyOf Tryd.f28) = true := by kernel_rfl
theorem en28 {args : List SV} {H : SH} {K : SV → SH → Prop} (h : forceL (args ++ List.replicate (Tryd.f28.ntmps - args.length) (.raw undef)) fun ts => ex Tryd.prog sch28 (bodyOf Tryd.f28) ts H (retK Tryd.prog Tryd.f28.results.toList K)) : FnOb Tryd.prog 28 args H K := fnOb_of_ex mixed Tryd.func28 rfl (by decide) ok28 h
def sch29 : Nat → Sched
  | _ => ⟨[], .nil, false⟩
theorem ok29 : okCode Tryd.prog sch29 (bodyOf Tryd.f29) = true := by kernel_rfl
theorem en29 {args : List SV} {H : SH} {K : SV → SH → Prop} (h : forceL (args ++ List.replicate (Tryd.f29.ntmps - args.length) (.raw undef)) fun ts => ex Tryd.prog sch29 (bodyOf Tryd.f29) ts H (retK Tryd.prog Tryd.f29.results.toList K)) : FnOb Tryd.prog 29 args H K := fnOb_of_ex mixed Tryd.func29 rfl (by decide) ok29 h
def sch30 : Nat → Sched
  | _ => ⟨[], .nil, false⟩
theorem ok30 : okCode Tryd.prog sch30 (bodyOf Tryd.f30) = true := by kernel_rfl
theorem en30 {args : List SV} {H : SH} {K : SV → SH → Prop} (h : forceL (args ++ List.replicate (Tryd.f30.ntmps - args.length) (.raw undef)) fun ts => ex Tryd.prog sch30 (bodyOf Tryd.f30) ts H (retK Tryd.prog Tryd.f30.results.toList K)) : FnOb Tryd.prog 30 args H K := fnOb_of_ex mixed Tryd.func30 rfl (by decide) ok30 h
def sch31 : Nat → Sched
  | _ => ⟨[], .nil, false⟩
theorem ok31 : okCode Tryd.prog sch31 (bodyOf Tryd.f31) = true := by kernel_rfl
theorem en31 {args : List SV} {H : SH} {K : SV → SH → Prop} (h : forceL (args ++ List.replicate (Tryd.f31.ntmps - args.length) (.raw undef)) fun ts => ex Tryd.prog sch31 (bodyOf Tryd.f31) ts H (retK Tryd.prog Tryd.f31.results.toList K)) : FnOb Tryd.prog 31 args H K := fnOb_of_ex mixed Tryd.func31 rfl (by decide) ok31 h
def sch32 : Nat → Sched
  | _ => ⟨[], .nil, false⟩
theorem ok32 : okCode Tryd.prog sch32 (bodyOf Tryd.f32) = true := by kernel_rfl
theorem en32 {args : List SV} {H : SH} {K : SV → SH → Prop} (h : forceL (args ++ List.replicate (Tryd.f32.ntmps - args.length) (.raw undef)) fun ts => ex Tryd.prog sch32 (bodyOf Tryd.f32) ts H (retK Tryd.prog Tryd.f32.results.toList K)) : FnOb Tryd.prog 32 args H K := fnOb_of_ex mixed Tryd.func32 rfl (by decide) ok32 h
def sch33 : Nat → Sched
  | _ => ⟨[], .nil, false⟩
theorem ok33 : okCode Tryd.prog sch33 (bodyOf Tryd.f33) = true := by kernel_rfl
theorem en33 {args : List SV} {H : SH} {K : SV → SH → Prop} (h : forceL (args ++ List.replicate (Tryd.f33.ntmps - args.length) (.raw undef)) fun ts => ex Tryd.prog sch33 (bodyOf Tryd.f33) ts H (retK Tryd.prog Tryd.f33.results.toList K)) : FnOb Tryd.prog 33 args H K := fnOb_of_ex mixed Tryd.func33 rfl (by decide) ok33 h
def sch34 : Nat → Sched
  | _ => ⟨[], .nil, false⟩
theorem ok34 : okCode Tryd.prog sch34 (bodyOf Tryd.f34) = true := by kernel_rfl
theorem en34 {args : List SV} {H : SH} {K : SV → SH → Prop} (h : forceL (args ++ List.replicate (Tryd.f34.ntmps - args.length) (.raw undef)) fun ts => ex Tryd.prog sch34 (bodyOf Tryd.f34) ts H (retK Tryd.prog Tryd.f34.results.toList K)) : FnOb Tryd.prog 34 args H K := fnOb_of_ex mixed Tryd.func34 rfl (by decide) ok34 h
def sch35 : Nat → Sched
  | _ => ⟨[], .nil, false⟩
theorem ok35 : okCode Tryd.prog sch35 (bodyOf Tryd.f35) = true := by kernel_rfl
theorem en35 {args : List SV} {H : SH} {K : SV → SH → Prop} (h : forceL (args ++ List.replicate (Tryd.f35.ntmps - args.length) (.raw undef)) fun ts => ex Tryd.prog sch35 (bodyOf Tryd.f35) ts H (retK Tryd.prog Tryd.f35.results.toList K)) : FnOb Tryd.prog 35 args H K := fnOb_of_ex mixed Tryd.func35 rfl (by decide) ok35 h
def sch36 : Nat → Sched
  | _ => ⟨[], .nil, false⟩
theorem ok36 : okCode Tryd.prog sch36 (bodyOf Tryd.f36) = true := by kernel_rfl
theorem en36 {args : List SV} {H : SH} {K : SV → SH → Prop} (h : forceL (args ++ List.replicate (Tryd.f36.ntmps - args.length) (.raw undef)) fun ts => ex Tryd.prog sch36 (bodyOf Tryd.f36) ts H (retK Tryd.prog Tryd.f36.results.toList K)) : FnOb Tryd.prog 36 args H K := fnOb_of_ex mixed Tryd.func36 rfl (by decide) ok36 h
def sch37 : Nat → Sched
  | 1 => ⟨[0, 1, 0, 7, 15, 31], (.step 0 [] (.step 2 [] (.step 1 [2] (.step 3 [] (.step 4 [] (.step 5 [] .nil)))))), false⟩
  | 10 => ⟨[0, 1, 0, 7, 15, 0, 63, 127, 0, 256, 0, 1792, 3840, 0, 16128, 32512, 65535, 131071], (.step 0 [] (.step 1 [] (.step 2 [] (.step 3 [] (.step 4 [] (.step 5 [] (.step 6 [] (.step 7 [] (.step 8 [] (.step 9 [] (.step 10 [] (.step 11 [] (.step 12 [] (.step 13 [] (.step 14 [] (.step 15 [] (.step 16 [] (.step 17 [] .nil)))))))))))))))))), false⟩
  | 13 => ⟨[0, 1, 0, 7, 15, 31, 0, 64, 0, 448, 960, 1984, 4095, 8191], (.step 0 [] (.step 1 [] (.step 2 [] (.step 3 [] (.step 4 [] (.step 5 [] (.step 6 [] (.step 7 [] (.step 8 [] (.step 9 [] (.step 10 [] (.step 11 [] (.step 12 [] (.step 13 [] .nil)))))))))))))), false⟩
  | _ => ⟨[], .nil, false⟩
theorem ok37 : okCode Tryd.prog sch37 (bodyOf Tryd.f37) = true := by kernel_rfl
theorem en37 {args : List SV} {H : SH} {K : SV → SH → Prop} (h : forceL (args ++ List.replicate (Tryd.f37.ntmps - args.length) (.raw undef)) fun ts => ex Tryd.prog sch37 (bodyOf Tryd.f37) ts H (retK Tryd.prog Tryd.f37.results.toList K)) : FnOb Tryd.prog 37 args H K := fnOb_of_ex mixed Tryd.func37 rfl (by decide) ok37 h
def sch38 : Nat → Sched
  | 6 => ⟨[0, 0, 3, 7, 0, 0, 48, 112, 255], (.step 0 [] (.step 1 [] (.step 2 [] (.step 3 [] (.step 4 [] (.step 5 [] (.step 6 [] (.step 7 [] (.step 8 [] .nil))))))))), false⟩
  | _ => ⟨[], .nil, false⟩
theorem ok38 : okCode Tryd.prog sch38 (bodyOf Tryd.f38) = true := by kernel_rfl
theorem en38 {args : List SV} {H : SH} {K : SV → SH → Prop} (h : forceL (args ++ List.replicate (Tryd.f38.ntmps - args.length) (.raw undef)) fun ts => ex Tryd.prog sch38 (bodyOf Tryd.f38) ts H (retK Tryd.prog Tryd.f38.results.toList K)) : FnOb Tryd.prog 38 args H K := fnOb_of_ex mixed Tryd.func38 rfl (by decide) ok38 h
def sch39 : Nat → Sched
  | _ => ⟨[], .nil, false⟩
theorem ok39 : okCode Tryd.prog sch39 (bodyOf Tryd.f39) = true := by kernel_rfl
theorem en39 {args : List SV} {H : SH} {K : SV → SH → Prop} (h : forceL (args ++ List.replicate (Tryd.f39.ntmps - args.length) (.raw undef)) fun ts => ex Tryd.prog sch39 (bodyOf Tryd.f39) ts H (retK Tryd.prog Tryd.f39.results.toList K)) : FnOb Tryd.prog 39 args H K := fnOb_of_ex mixed Tryd.func39 rfl (by decide) ok39 h
def sch40 : Nat → Sched
  | _ => ⟨[], .nil, false⟩
theorem ok40 : okCode Tryd.prog sch40 (bodyOf Tryd.f40) = true := by kernel_rfl
theorem en40 {args : List SV} {H : SH} {K : SV → SH → Prop} (h : forceL (args ++ List.replicate (Tryd.f40.ntmps - args.length) (.raw undef)) fun ts => ex Tryd.prog sch40 (bodyOf Tryd.f40) ts H (retK Tryd.prog Tryd.f40.results.toList K)) : FnOb Tryd.prog 40 args H K := fnOb_of_ex mixed Tryd.func40 rfl (by decide) ok40 h
def sch41 : Nat → Sched
  | 14 => ⟨[0, 0, 3, 0, 8, 24, 63, 0, 128, 511, 1023], (.step 0 [] (.step 3 [] (.step 4 [] (.step 5 [] (.step 7 [] (.step 8 [] (.step 1 [4, 8] (.step 2 [4, 8] (.step 6 [8] (.step 9 [] (.step 10 [] .nil))))))))))), false⟩
  | 15 => ⟨[0, 0, 3, 0, 8, 31, 63], (.step 0 [] (.step 3 [] (.step 4 [] (.step 1 [4] (.step 2 [4] (.step 5 [] (.step 6 [] .nil))))))), false⟩
  | _ => ⟨[], .nil, false⟩
theorem ok41 : okCode Tryd.prog sch41 (bodyOf Tryd.f41) = true := by kernel_rfl
theorem en41 {args : List SV} {H : SH} {K : SV → SH → Prop} (h : forceL (args ++ List.replicate (Tryd.f41.ntmps - args.length) (.raw undef)) fun ts => ex Tryd.prog sch41 (bodyOf Tryd.f41) ts H (retK Tryd.prog Tryd.f41.results.toList K)) : FnOb Tryd.prog 41 args H K := fnOb_of_ex mixed Tryd.func41 rfl (by decide) ok41 h
def sch42 : Nat → Sched
  | _ => ⟨[], .nil, false⟩
theorem ok42 : okCode Tryd.prog sch42 (bodyOf Tryd.f42) = true := by kernel_rfl
theorem en42 {args : List SV} {H : SH} {K : SV → SH → Prop} (h : forceL (args ++ List.replicate (Tryd.f42.ntmps - args.length) (.raw undef)) fun ts => ex Tryd.prog sch42 (bodyOf Tryd.f42) ts H (retK Tryd.prog Tryd.f42.results.toList K)) : FnOb Tryd.prog 42 args H K := fnOb_of_ex mixed Tryd.func42 rfl (by decide) ok42 h
def sch43 : Nat → Sched
  | _ => ⟨[], .nil, false⟩
theorem ok43 : okCode Tryd.prog sch43 (bodyOf Tryd.f43) = true := by kernel_rfl
theorem en43 {args : List SV} {H : SH} {K : SV → SH → Prop} (h : forceL (args ++ List.replicate (Tryd.f43.ntmps - args.length) (.raw undef)) fun ts => ex Tryd.prog sch43 (bodyOf Tryd.f43) ts H (retK Tryd.prog Tryd.f43.results.toList K)) : FnOb Tryd.prog 43 args H K := fnOb_of_ex mixed Tryd.func43 rfl (by decide) ok43 h
def sch44 : Nat → Sched
  | _ => ⟨[], .nil, false⟩
theorem ok44 : okCode Tryd.prog sch44 (bodyOf Tryd.f44) = true := by kernel_rfl
theorem en44 {args : List SV} {H : SH} {K : SV → SH → Prop} (h : forceL (args ++ List.replicate (Tryd.f44.ntmps - args.length) (.raw undef)) fun ts => ex Tryd.prog sch44 (bodyOf Tryd.f44) ts H (retK Tryd.prog Tryd.f44.results.toList K)) : FnOb Tryd.prog 44 args H K := fnOb_of_ex mixed Tryd.func44 rfl (by decide) ok44 h
def sch45 : Nat → Sched
  | _ => ⟨[], .nil, false⟩
theorem ok45 : okCode Tryd.prog sch45 (bodyOf Tryd.f45) = true := by kernel_rfl
theorem en45 {args : List SV} {H : SH} {K : SV → SH → Prop} (h : forceL (args ++ List.replicate (Tryd.f45.ntmps - args.length) (.raw undef)) fun ts => ex Tryd.prog sch45 (bodyOf Tryd.f45) ts H (retK Tryd.prog Tryd.f45.results.toList K)) : FnOb Tryd.prog 45 args H K := fnOb_of_ex mixed Tryd.func45 rfl (by decide) ok45 h
def sch46 : Nat → Sched
  | _ => ⟨[], .nil, false⟩
theorem ok46 : okCode Tryd.prog sch46 (bodyOf Tryd.f46) = true := by kernel_rfl
theorem en46 {args : List SV} {H : SH} {K : SV → SH → Prop} (h : forceL (args ++ List.replicate (Tryd.f46.ntmps - args.length) (.raw undef)) fun ts => ex Tryd.prog sch46 (bodyOf Tryd.f46) ts H (retK Tryd.prog Tryd.f46.results.toList K)) : FnOb Tryd.prog 46 args H K := fnOb_of_ex mixed Tryd.func46 rfl (by decide) ok46 h
def sch47 : Nat → Sched
  | _ => ⟨[], .nil, false⟩
theorem ok47 : okCode Tryd.prog sch47 (bodyOf Tryd.f47) = true := by kernel_rfl
theorem en47 {args : List SV} {H : SH} {K : SV → SH → Prop} (h : forceL (args ++ List.replicate (Tryd.f47.ntmps - args.length) (.raw undef)) fun ts => ex Tryd.prog sch47 (bodyOf Tryd.f47) ts H (retK Tryd.prog Tryd.f47.results.toList K)) : FnOb Tryd.prog 47 args H K := fnOb_of_ex mixed Tryd.func47 rfl (by decide) ok47 h
def sch48 : Nat → Sched
  | _ => ⟨[], .nil, false⟩
theorem ok48 : okCode Tryd.prog sch48 (bodyOf Tryd.f48) = true := by kernel_rfl
theorem en48 {args : List SV} {H : SH} {K : SV → SH → Prop} (h : forceL (args ++ List.replicate (Tryd.f48.ntmps - args.length) (.raw undef)) fun ts => ex Tryd.prog sch48 (bodyOf Tryd.f48) ts H (retK Tryd.prog Tryd.f48.results.toList K)) : FnOb Tryd.prog 48 args H K := fnOb_of_ex mixed Tryd.func48 rfl (by decide) ok48 h
def sch49 : Nat → Sched
  | _ => ⟨[], .nil, false⟩
theorem ok49 : okCode Tryd.prog sch49 (bodyOf Tryd.f49) = true := by kernel_rfl
theorem en49 {args : List SV} {H : SH} {K : SV → SH → Prop} (h : forceL (args ++ List.replicate (Tryd.f49.ntmps - args.length) (.raw undef)) fun ts => ex Tryd.prog sch49 (bodyOf Tryd.f49) ts H (retK Tryd.prog Tryd.f49.results.toList K)) : FnOb Tryd.prog 49 args H K := fnOb_of_ex mixed Tryd.func49 rfl (by decide) ok49 h
def sch50 : Nat → Sched
  | _ => ⟨[], .nil, false⟩
theorem ok50 : okCode Tryd.prog sch50 (bodyOf Tryd.f50) = true := by kernel_rfl
theorem en50 {args : List SV} {H : SH} {K : SV → SH → Prop} (h : forceL (args ++ List.replicate (Tryd.f50.ntmps - args.length) (.raw undef)) fun ts => ex Tryd.prog sch50 (bodyOf Tryd.f50) ts H (retK Tryd.prog Tryd.f50.results.toList K)) : FnOb Tryd.prog 50 args H K := fnOb_of_ex mixed Tryd.func50 rfl (by decide) ok50 h
def sch51 : Nat → Sched
  | _ => ⟨[], .nil, false⟩
theorem ok51 : okCode Tryd.prog sch51 (bodyOf Tryd.f51) = true := by kernel_rfl
theorem en51 {args : List SV} {H : SH} {K : SV → SH → Prop} (h : forceL (args ++ List.replicate (Tryd.f51.ntmps - args.length) (.raw undef)) fun ts => ex Tryd.prog sch51 (bodyOf Tryd.f51) ts H (retK Tryd.prog Tryd.f51.results.toList K)) : FnOb Tryd.prog 51 args H K := fnOb_of_ex mixed Tryd.func51 rfl (by decide) ok51 h
def sch52 : Nat → Sched
  | _ => ⟨[], .nil, false⟩
theorem ok52 : okCode Tryd.prog sch52 (bodyOf Tryd.f52) = true := by kernel_rfl
theorem en52 {args : List SV} {H : SH} {K : SV → SH → Prop} (h : forceL (args ++ List.replicate (Tryd.f52.ntmps - args.length) (.raw undef)) fun ts => ex Tryd.prog sch52 (bodyOf Tryd.f52) ts H (retK Tryd.prog Tryd.f52.results.toList K)) : FnOb Tryd.prog 52 args H K := fnOb_of_ex mixed Tryd.func52 rfl (by decide) ok52 h
def sch53 : Nat → Sched
  | _ => ⟨[], .nil, false⟩
theorem ok53 : okCode Tryd.prog sch53 (bodyOf Tryd.f53) = true := by kernel_rfl
theorem en53 {args : List SV} {H : SH} {K : SV → SH → Prop} (h : forceL (args ++ List.replicate (Tryd.f53.ntmps - args.length) (.raw undef)) fun ts => ex Tryd.prog sch53 (bodyOf Tryd.f53) ts H (retK Tryd.prog Tryd.f53.results.toList K)) : FnOb Tryd.prog 53 args H K := fnOb_of_ex mixed Tryd.func53 rfl (by decide) ok53 h
def sch54 : Nat → Sched
  | _ => ⟨[], .nil, false⟩
theorem ok54 : okCode Tryd.prog sch54 (bodyOf Tryd.f54) = true := by kernel_rfl
theorem en54 {args : List SV} {H : SH} {K : SV → SH → Prop} (h : forceL (args ++ List.replicate (Tryd.f54.ntmps - args.length) (.raw undef)) fun ts => ex Tryd.prog sch54 (bodyOf Tryd.f54) ts H (retK Tryd.prog Tryd.f54.results.toList K)) : FnOb Tryd.prog 54 args H K := fnOb_of_ex mixed Tryd.func54 rfl (by decide) ok54 h
def sch55 : Nat → Sched
  | 4 => ⟨[0, 0, 2, 7, 0, 16, 63, 127], (.step 0 [] (.step 1 [] (.step 2 [] (.step 4 [] (.step 5 [] (.step 3 [] (.step 6 [] (.step 7 [] .nil)))))))), false⟩
  | _ => ⟨[], .nil, false⟩
theorem ok55 : okCode Tryd.prog sch55 (bodyOf Tryd.f55) = true := by kernel_rfl
theorem en55 {args : List SV} {H : SH} {K : SV → SH → Prop} (h : forceL (args ++ List.replicate (Tryd.f55.ntmps - args.length) (.raw undef)) fun ts => ex Tryd.prog sch55 (bodyOf Tryd.f55) ts H (retK Tryd.prog Tryd.f55.results.toList K)) : FnOb Tryd.prog 55 args H K := fnOb_of_ex mixed Tryd.func55 rfl (by decide) ok55 h
def sch56 : Nat → Sched
  | _ => ⟨[], .nil, false⟩
theorem ok56 : okCode Tryd.prog sch56 (bodyOf Tryd.f56) = true := by kernel_rfl
theorem en56 {args : List SV} {H : SH} {K : SV → SH → Prop} (h : forceL (args ++ List.replicate (Tryd.f56.ntmps - args.length) (.raw undef)) fun ts => ex Tryd.prog sch56 (bodyOf Tryd.f56) ts H (retK Tryd.prog Tryd.f56.results.toList K)) : FnOb Tryd.prog 56 args H K := fnOb_of_ex mixed Tryd.func56 rfl (by decide) ok56 h
def sch57 : Nat → Sched
  | _ => ⟨[], .nil, false⟩
theorem ok57 : okCode Tryd.prog sch57 (bodyOf Tryd.f57) = true := by kernel_rfl
theorem en57 {args : List SV} {H : SH} {K : SV → SH → Prop} (h : forceL (args ++ List.replicate (Tryd.f57.ntmps - args.length) (.raw undef)) fun ts => ex Tryd.prog sch57 (bodyOf Tryd.f57) ts H (retK Tryd.prog Tryd.f57.results.toList K)) : FnOb Tryd.prog 57 args H K := fnOb_of_ex mixed Tryd.func57 rfl (by decide) ok57 h
def sch58 : Nat → Sched
  | _ => ⟨[], .nil, false⟩
theorem ok58 : okCode Tryd.prog sch58 (bodyOf Tryd.f58) = true := by kernel_rfl
theorem en58 {args : List SV} {H : SH} {K : SV → SH → Prop} (h : forceL (args ++ List.replicate (Tryd.f58.ntmps - args.length) (.raw undef)) fun ts => ex Tryd.prog sch58 (bodyOf Tryd.f58) ts H (retK Tryd.prog Tryd.f58.results.toList K)) : FnOb Tryd.prog 58 args H K := fnOb_of_ex mixed Tryd.func58 rfl (by decide) ok58 h
def sch59 : Nat → Sched
  | _ => ⟨[], .nil, false⟩
theorem ok59 : okCode Tryd.prog sch59 (bodyOf Tryd.f59) = true := by kernel_rfl
theorem en59 {args : List SV} {H : SH} {K : SV → SH → Prop} (h : forceL (args ++ List.replicate (Tryd.f59.ntmps - args.length) (.raw undef)) fun ts => ex Tryd.prog sch59 (bodyOf Tryd.f59) ts H (retK Tryd.prog Tryd.f59.results.toList K)) : FnOb Tryd.prog 59 args H K := fnOb_of_ex mixed Tryd.func59 rfl (by decide) ok59 h
def sch60 : Nat → Sched
  | _ => ⟨[], .nil, false⟩
theorem ok60 : okCode Tryd.prog sch60 (bodyOf Tryd.f60) = true := by kernel_rfl
theorem en60 {args : List SV} {H : SH} {K : SV → SH → Prop} (h : forceL (args ++ List.replicate (Tryd.f60.ntmps - args.length) (.raw undef)) fun ts => ex Tryd.prog sch60 (bodyOf Tryd.f60) ts H (retK Tryd.prog Tryd.f60.results.toList K)) : FnOb Tryd.prog 60 args H K := fnOb_of_ex mixed Tryd.func60 rfl (by decide) ok60 h
def sch61 : Nat → Sched
  | _ => ⟨[], .nil, false⟩
theorem ok61 : okCode Tryd.prog sch61 (bodyOf Tryd.f61) = true := by kernel_rfl
theorem en61 {args : List SV} {H : SH} {K : SV → SH → Prop} (h : forceL (args ++ List.replicate (Tryd.f61.ntmps - args.length) (.raw undef)) fun ts => ex Tryd.prog sch61 (bodyOf Tryd.f61) ts H (retK Tryd.prog Tryd.f61.results.toList K)) : FnOb Tryd.prog 61 args H K := fnOb_of_ex mixed Tryd.func61 rfl (by decide) ok61 h
def sch63 : Nat → Sched
  | _ => ⟨[], .nil, false⟩
theorem ok63 : okCode Tryd.prog sch63 (bodyOf Tryd.f63) = true := by kernel_rfl
theorem en63 {args : List SV} {H : SH} {K : SV → SH → Prop} (h : forceL (args ++ List.replicate (Tryd.f63.ntmps - args.length) (.raw undef)) fun ts => ex Tryd.prog sch63 (bodyOf Tryd.f63) ts H (retK Tryd.prog Tryd.f63.results.toList K)) : FnOb Tryd.prog 63 args H K := fnOb_of_ex mixed Tryd.func63 rfl (by decide) ok63 h
def sch64 : Nat → Sched
  | _ => ⟨[], .nil, false⟩
theorem ok64 : okCode Tryd.prog sch64 (bodyOf Tryd.f64) = true := by kernel_rfl
theorem en64 {args : List SV} {H : SH} {K : SV → SH → Prop} (h : forceL (args ++ List.replicate (Tryd.f64.ntmps - args.length) (.raw undef)) fun ts => ex Tryd.prog sch64 (bodyOf Tryd.f64) ts H (retK Tryd.prog Tryd.f64.results.toList K)) : FnOb Tryd.prog 64 args H K := fnOb_of_ex mixed Tryd.func64 rfl (by decide) ok64 h
def sch65 : Nat → Sched
  | _ => ⟨[], .nil, false⟩
theorem ok65 : okCode Tryd.prog sch65 (bodyOf Tryd.f65) = true := by kernel_rfl
theorem en65 {args : List SV} {H : SH} {K : SV → SH → Prop} (h : forceL (args ++ List.replicate (Tryd.f65.ntmps - args.length) (.raw undef)) fun ts => ex Tryd.prog sch65 (bodyOf Tryd.f65) ts H (retK Tryd.prog Tryd.f65.results.toList K)) : FnOb Tryd.prog 65 args H K := fnOb_of_ex mixed Tryd.func65 rfl (by decide) ok65 h
def sch66 : Nat → Sched
  | _ => ⟨[], .nil, false⟩
theorem ok66 : okCode Tryd.prog sch66 (bodyOf Tryd.f66) = true := by kernel_rfl
theorem en66 {args : List SV} {H : SH} {K : SV → SH → Prop} (h : forceL (args ++ List.replicate (Tryd.f66.ntmps - args.length) (.raw undef)) fun ts => ex Tryd.prog sch66 (bodyOf Tryd.f66) ts H (retK Tryd.prog Tryd.f66.results.toList K)) : FnOb Tryd.prog 66 args H K := fnOb_of_ex mixed Tryd.func66 rfl (by decide) ok66 h
def sch67 : Nat → Sched
  | _ => ⟨[], .nil, false⟩
theorem ok67 : okCode Tryd.prog sch67 (bodyOf Tryd.f67) = true := by kernel_rfl
theorem en67 {args : List SV} {H : SH} {K : SV → SH → Prop} (h : forceL (args ++ List.replicate (Tryd.f67.ntmps - args.length) (.raw undef)) fun ts => ex Tryd.prog sch67 (bodyOf Tryd.f67) ts H (retK Tryd.prog Tryd.f67.results.toList K)) : FnOb Tryd.prog 67 args H K := fnOb_of_ex mixed Tryd.func67 rfl (by decide) ok67 h
def sch68 : Nat → Sched
  | _ => ⟨[], .nil, false⟩
theorem ok68 : okCode Tryd.prog sch68 (bodyOf Tryd.f68) = true := by kernel_rfl
theorem en68 {args : List SV} {H : SH} {K : SV → SH → Prop} (h : forceL (args ++ List.replicate (Tryd.f68.ntmps - args.length) (.raw undef)) fun ts => ex Tryd.prog sch68 (bodyOf Tryd.f68) ts H (retK Tryd.prog Tryd.f68.results.toList K)) : FnOb Tryd.prog 68 args H K := fnOb_of_ex mixed Tryd.func68 rfl (by decide) ok68 h
def sch69 : Nat → Sched
  | _ => ⟨[], .nil, false⟩
theorem ok69 : okCode Tryd.prog sch69 (bodyOf Tryd.f69) = true := by kernel_rfl
theorem en69 {args : List SV} {H : SH} {K : SV → SH → Prop} (h : forceL (args ++ List.replicate (Tryd.f69.ntmps - args.length) (.raw undef)) fun ts => ex Tryd.prog sch69 (bodyOf Tryd.f69) ts H (retK Tryd.prog Tryd.f69.results.toList K)) : FnOb Tryd.prog 69 args H K := fnOb_of_ex mixed Tryd.func69 rfl (by decide) ok69 h
def sch70 : Nat → Sched
  | _ => ⟨[], .nil, false⟩
theorem ok70 : okCode Tryd.prog sch70 (bodyOf Tryd.f70) = true := by kernel_rfl
theorem en70 {args : List SV} {H : SH} {K : SV → SH → Prop} (h : forceL (args ++ List.replicate (Tryd.f70.ntmps - args.length) (.raw undef)) fun ts => ex Tryd.prog sch70 (bodyOf Tryd.f70) ts H (retK Tryd.prog Tryd.f70.results.toList K)) : FnOb Tryd.prog 70 args H K := fnOb_of_ex mixed Tryd.func70 rfl (by decide) ok70 h
def sch71 : Nat → Sched
  | 2 => ⟨[0, 1, 3, 7, 15, 0, 32, 127, 255], (.step 0 [] (.step 1 [] (.step 2 [] (.step 5 [] (.step 6 [] (.step 3 [6] (.step 4 [] (.step 7 [] (.step 8 [] .nil))))))))), false⟩
  | _ => ⟨[], .nil, false⟩
theorem ok71 : okCode Tryd.prog sch71 (bodyOf Tryd.f71) = true := by kernel_rfl
theorem en71 {args : List SV} {H : SH} {K : SV → SH → Prop} (h : forceL (args ++ List.replicate (Tryd.f71.ntmps - args.length) (.raw undef)) fun ts => ex Tryd.prog sch71 (bodyOf Tryd.f71) ts H (retK Tryd.prog Tryd.f71.results.toList K)) : FnOb Tryd.prog 71 args H K := fnOb_of_ex mixed Tryd.func71 rfl (by decide) ok71 h
def sch72 : Nat → Sched
  | 1 => ⟨[0, 1, 3, 7, 0, 16, 48, 112, 255, 511], (.step 0 [] (.step 1 [] (.step 2 [] (.step 3 [] (.step 4 [] (.step 5 [] (.step 6 [] (.step 7 [] (.step 8 [] (.step 9 [] .nil)))))))))), false⟩
  | 12 => ⟨[0, 1, 3, 7, 15, 0, 32, 96, 224, 511, 0, 2047, 4095], (.step 0 [] (.step 1 [] (.step 2 [] (.step 3 [] (.step 4 [] (.step 5 [] (.step 6 [] (.step 7 [] (.step 8 [] (.step 9 [] (.step 10 [] (.step 11 [] (.step 12 [] .nil))))))))))))), false⟩
  | 14 => ⟨[0, 1, 3, 7, 0, 16, 48, 112, 0, 256, 768, 1792, 0, 7936, 16383, 32767, 65535], (.step 0 [] (.step 1 [] (.step 2 [] (.step 3 [] (.step 4 [] (.step 5 [] (.step 6 [] (.step 7 [] (.step 8 [] (.step 9 [] (.step 10 [] (.step 11 [] (.step 12 [] (.step 13 [] (.step 14 [] (.step 15 [] (.step 16 [] .nil))))))))))))))))), false⟩
  | _ => ⟨[], .nil, false⟩
theorem ok72 : okCode Tryd.prog sch72 (bodyOf Tryd.f72) = true := by kernel_rfl
theorem en72 {args : List SV} {H : SH} {K : SV → SH → Prop} (h : forceL (args ++ List.replicate (Tryd.f72.ntmps - args.length) (.raw undef)) fun ts => ex Tryd.prog sch72 (bodyOf Tryd.f72) ts H (retK Tryd.prog Tryd.f72.results.toList K)) : FnOb Tryd.prog 72 args H K := fnOb_of_ex mixed Tryd.func72 rfl (by decide) ok72 h
def sch73 : Nat → Sched
  | _ => ⟨[], .nil, false⟩
theorem ok73 : okCode Tryd.prog sch73 (bodyOf Tryd.f73) = true := by kernel_rfl
theorem en73 {args : List SV} {H : SH} {K : SV → SH → Prop} (h : forceL (args ++ List.replicate (Tryd.f73.ntmps - args.length) (.raw undef)) fun ts => ex Tryd.prog sch73 (bodyOf Tryd.f73) ts H (retK Tryd.prog Tryd.f73.results.toList K)) : FnOb Tryd.prog 73 args H K := fnOb_of_ex mixed Tryd.func73 rfl (by decide) ok73 h
def sch74 : Nat → Sched
  | _ => ⟨[], .nil, false⟩
theorem ok74 : okCode Tryd.prog sch74 (bodyOf Tryd.f74) = true := by kernel_rfl
theorem en74 {args : List SV} {H : SH} {K : SV → SH → Prop} (h : forceL (args ++ List.replicate (Tryd.f74.ntmps - args.length) (.raw undef)) fun ts => ex Tryd.prog sch74 (bodyOf Tryd.f74) ts H (retK Tryd.prog Tryd.f74.results.toList K)) : FnOb Tryd.prog 74 args H K := fnOb_of_ex mixed Tryd.func74 rfl (by decide) ok74 h
def sch75 : Nat → Sched
  | _ => ⟨[], .nil, false⟩
theorem ok75 : okCode Tryd.prog sch75 (bodyOf Tryd.f75) = true := by kernel_rfl
theorem en75 {args : List SV} {H : SH} {K : SV → SH → Prop} (h : forceL (args ++ List.replicate (Tryd.f75.ntmps - args.length) (.raw undef)) fun ts => ex Tryd.prog sch75 (bodyOf Tryd.f75) ts H (retK Tryd.prog Tryd.f75.results.toList K)) : FnOb Tryd.prog 75 args H K := fnOb_of_ex mixed Tryd.func75 rfl (by decide) ok75 h
def sch76 : Nat → Sched
  | _ => ⟨[], .nil, false⟩
theorem ok76 : okCode Tryd.prog sch76 (bodyOf Tryd.f76) = true := by kernel_rfl
theorem en76 {args : List SV} {H : SH} {K : SV → SH → Prop} (h : forceL (args ++ List.replicate (Tryd.f76.ntmps - args.length) (.raw undef)) fun ts => ex Tryd.prog sch76 (bodyOf Tryd.f76) ts H (retK Tryd.prog Tryd.f76.results.toList K)) : FnOb Tryd.prog 76 args H K := fnOb_of_ex mixed Tryd.func76 rfl (by decide) ok76 h
def sch77 : Nat → Sched
  | _ => ⟨[], .nil, false⟩
theorem ok77 : okCode Tryd.prog sch77 (bodyOf Tryd.f77) = true := by kernel_rfl
theorem en77 {args : List SV} {H : SH} {K : SV → SH → Prop} (h : forceL (args ++ List.replicate (Tryd.f77.ntmps - args.length) (.raw undef)) fun ts => ex Tryd.prog sch77 (bodyOf Tryd.f77) ts H (retK Tryd.prog Tryd.f77.results.toList K)) : FnOb Tryd.prog 77 args H K := fnOb_of_ex mixed Tryd.func77 rfl (by decide) ok77 h
def sch78 : Nat → Sched
  | _ => ⟨[], .nil, false⟩
theorem ok78 : okCode Tryd.prog sch78 (bodyOf Tryd.f78) = true := by kernel_rfl
theorem en78 {args : List SV} {H : SH} {K : SV → SH → Prop} (h : forceL (args ++ List.replicate (Tryd.f78.ntmps - args.length) (.raw undef)) fun ts => ex Tryd.prog sch78 (bodyOf Tryd.f78) ts H (retK Tryd.prog Tryd.f78.results.toList K)) : FnOb Tryd.prog 78 args H K := fnOb_of_ex mixed Tryd.func78 rfl (by decide) ok78 h
def sch79 : Nat → Sched
  | 4 => ⟨[0, 1, 3, 7, 0, 16, 48, 112, 240, 511], (.step 0 [] (.step 1 [] (.step 2 [] (.step 3 [] (.step 4 [] (.step 5 [] (.step 6 [] (.step 7 [] (.step 8 [] (.step 9 [] .nil)))))))))), false⟩
  | 6 => ⟨[0, 1, 3, 7, 0, 16, 48, 112, 255, 511], (.step 0 [] (.step 1 [] (.step 2 [] (.step 3 [] (.step 4 [] (.step 5 [] (.step 6 [] (.step 7 [] (.step 8 [] (.step 9 [] .nil)))))))))), false⟩
  | _ => ⟨[], .nil, false⟩
theorem ok79 : okCode Tryd.prog sch79 (bodyOf Tryd.f79) = true := by kernel_rfl
theorem en79 {args : List SV} {H : SH} {K : SV → SH → Prop} (h : forceL (args ++ List.replicate (Tryd.f79.ntmps - args.length) (.raw undef)) fun ts => ex Tryd.prog sch79 (bodyOf Tryd.f79) ts H (retK Tryd.prog Tryd.f79.results.toList K)) : FnOb Tryd.prog 79 args H K := fnOb_of_ex mixed Tryd.func79 rfl (by decide) ok79 h
def sch80 : Nat → Sched
  | _ => ⟨[], .nil, false⟩
theorem ok80 : okCode Tryd.prog sch80 (bodyOf Tryd.f80) = true := by kernel_rfl
theorem en80 {args : List SV} {H : SH} {K : SV → SH → Prop} (h : forceL (args ++ List.replicate (Tryd.f80.ntmps - args.length) (.raw undef)) fun ts => ex Tryd.prog sch80 (bodyOf Tryd.f80) ts H (retK Tryd.prog Tryd.f80.results.toList K)) : FnOb Tryd.prog 80 args H K := fnOb_of_ex mixed Tryd.func80 rfl (by decide) ok80 h
def sch81 : Nat → Sched
  | _ => ⟨[], .nil, false⟩
theorem ok81 : okCode Tryd.prog sch81 (bodyOf Tryd.f81) = true := by kernel_rfl
theorem en81 {args : List SV} {H : SH} {K : SV → SH → Prop} (h : forceL (args ++ List.replicate (Tryd.f81.ntmps - args.length) (.raw undef)) fun ts => ex Tryd.prog sch81 (bodyOf Tryd.f81) ts H (retK Tryd.prog Tryd.f81.results.toList K)) : FnOb Tryd.prog 81 args H K := fnOb_of_ex mixed Tryd.func81 rfl (by decide) ok81 h
def sch82 : Nat → Sched
  | 6 => ⟨[0, 0, 3, 0, 0, 24, 63], (.step 0 [] (.step 1 [] (.step 2 [] (.step 3 [] (.step 4 [] (.step 5 [] (.step 6 [] .nil))))))), false⟩
  | 7 => ⟨[0, 0, 2, 7, 0, 0, 48, 127, 255], (.step 0 [] (.step 1 [] (.step 2 [] (.step 3 [] (.step 4 [] (.step 5 [] (.step 6 [] (.step 7 [] (.step 8 [] .nil))))))))), false⟩
  | 14 => ⟨[0, 0, 0, 6, 15, 0, 0, 0, 192, 480, 1023], (.step 0 [] (.step 1 [] (.step 2 [] (.step 3 [] (.step 4 [] (.step 5 [] (.step 6 [] (.step 7 [] (.step 8 [] (.step 9 [] (.step 10 [] .nil))))))))))), false⟩
  | 31 => ⟨[0, 0, 0, 6, 15, 0, 0, 0, 192, 480, 1023], (.step 0 [] (.step 1 [] (.step 2 [] (.step 3 [] (.step 4 [] (.step 5 [] (.step 6 [] (.step 7 [] (.step 8 [] (.step 9 [] (.step 10 [] .nil))))))))))), false⟩
  | _ => ⟨[], .nil, false⟩
theorem ok82 : okCode Tryd.prog sch82 (bodyOf Tryd.f82) = true := by kernel_rfl
theorem en82 {args : List SV} {H : SH} {K : SV → SH → Prop} (h : forceL (args ++ List.replicate (Tryd.f82.ntmps - args.length) (.raw undef)) fun ts => ex Tryd.prog sch82 (bodyOf Tryd.f82) ts H (retK Tryd.prog Tryd.f82.results.toList K)) : FnOb Tryd.prog 82 args H K := fnOb_of_ex mixed Tryd.func82 rfl (by decide) ok82 h
def sch83 : Nat → Sched
  | _ => ⟨[], .nil, false⟩
theorem ok83 : okCode Tryd.prog sch83 (bodyOf Tryd.f83) = true := by kernel_rfl
theorem en83 {args : List SV} {H : SH} {K : SV → SH → Prop} (h : forceL (args ++ List.replicate (Tryd.f83.ntmps - args.length) (.raw undef)) fun ts => ex Tryd.prog sch83 (bodyOf Tryd.f83) ts H (retK Tryd.prog Tryd.f83.results.toList K)) : FnOb Tryd.prog 83 args H K := fnOb_of_ex mixed Tryd.func83 rfl (by decide) ok83 h
def sch84 : Nat → Sched
  | _ => ⟨[], .nil, false⟩
theorem ok84 : okCode Tryd.prog sch84 (bodyOf Tryd.f84) = true := by kernel_rfl
theorem en84 {args : List SV} {H : SH} {K : SV → SH → Prop} (h : forceL (args ++ List.replicate (Tryd.f84.ntmps - args.length) (.raw undef)) fun ts => ex Tryd.prog sch84 (bodyOf Tryd.f84) ts H (retK Tryd.prog Tryd.f84.results.toList K)) : FnOb Tryd.prog 84 args H K := fnOb_of_ex mixed Tryd.func84 rfl (by decide) ok84 h
def sch85 : Nat → Sched
  | _ => ⟨[], .nil, false⟩
theorem ok85 : okCode Tryd.prog sch85 (bodyOf Tryd.f85) = true := by kernel_rfl
theorem en85 {args : List SV} {H : SH} {K : SV → SH → Prop} (h : forceL (args ++ List.replicate (Tryd.f85.ntmps - args.length) (.raw undef)) fun ts => ex Tryd.prog sch85 (bodyOf Tryd.f85) ts H (retK Tryd.prog Tryd.f85.results.toList K)) : FnOb Tryd.prog 85 args H K := fnOb_of_ex mixed Tryd.func85 rfl (by decide) ok85 h
def sch86 : Nat → Sched
  | _ => ⟨[], .nil, false⟩
theorem ok86 : okCode Tryd.prog sch86 (bodyOf Tryd.f86) = true := by kernel_rfl
theorem en86 {args : List SV} {H : SH} {K : SV → SH → Prop} (h : forceL (args ++ List.replicate (Tryd.f86.ntmps - args.length) (.raw undef)) fun ts => ex Tryd.prog sch86 (bodyOf Tryd.f86) ts H (retK Tryd.prog Tryd.f86.results.toList K)) : FnOb Tryd.prog 86 args H K := fnOb_of_ex mixed Tryd.func86 rfl (by decide) ok86 h
def sch87 : Nat → Sched
  | _ => ⟨[], .nil, false⟩
theorem ok87 : okCode Tryd.prog sch87 (bodyOf Tryd.f87) = true := by kernel_rfl
theorem en87 {args : List SV} {H : SH} {K : SV → SH → Prop} (h : forceL (args ++ List.replicate (Tryd.f87.ntmps - args.length) (.raw undef)) fun ts => ex Tryd.prog sch87 (bodyOf Tryd.f87) ts H (retK Tryd.prog Tryd.f87.results.toList K)) : FnOb Tryd.prog 87 args H K := fnOb_of_ex mixed Tryd.func87 rfl (by decide) ok87 h
def sch88 : Nat → Sched
  | _ => ⟨[], .nil, false⟩
theorem ok88 : okCode Tryd.prog sch88 (bodyOf Tryd.f88) = true := by kernel_rfl
theorem en88 {args : List SV} {H : SH} {K : SV → SH → Prop} (h : forceL (args ++ List.replicate (Tryd.f88.ntmps - args.length) (.raw undef)) fun ts => ex Tryd.prog sch88 (bodyOf Tryd.f88) ts H (retK Tryd.prog Tryd.f88.results.toList K)) : FnOb Tryd.prog 88 args H K := fnOb_of_ex mixed Tryd.func88 rfl (by decide) ok88 h
def sch90 : Nat → Sched
  | _ => ⟨[], .nil, false⟩
theorem ok90 : okCode Tryd.prog sch90 (bodyOf Tryd.f90) = true := by kernel_rfl
theorem en90 {args : List SV} {H : SH} {K : SV → SH → Prop} (h : forceL (args ++ List.replicate (Tryd.f90.ntmps - args.length) (.raw undef)) fun ts => ex Tryd.prog sch90 (bodyOf Tryd.f90) ts H (retK Tryd.prog Tryd.f90.results.toList K)) : FnOb Tryd.prog 90 args H K := fnOb_of_ex mixed Tryd.func90 rfl (by decide) ok90 h
end Go.Proofs.YtbcnpklmhgcenaaDoor
