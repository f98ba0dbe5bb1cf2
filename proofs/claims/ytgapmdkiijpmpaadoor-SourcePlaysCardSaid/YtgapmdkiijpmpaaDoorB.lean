/- The seat's functions: in which order each region that draws is walked (by a program of this session's), and the door to each function's code. Own work. -/
import Derived.Test.YtgapmdkiijpmpaaDoorSyN
import Derived.Test.YtgapmdkiijpmpaaDoorChecked
namespace Go.Proofs.YtgapmdkiijpmpaaDoor
open Go Go.Sy
set_option maxRecDepth 100000
theorem mixed : Tryd.prog.follows .mixedOrders = true := by kernel_rfl
def bodyOf (f : Func) : Code := match f.body with | some c => c | none => .skip
def sch3 : Nat → Sched
  | 22 => ⟨[0, 1, 0, 7, 15, 31, 31, 127, 255, 31, 31, 1567, 3615, 8191, 16383], (.step 0 [] (.step 1 [] (.step 2 [] (.step 3 [] (.step 4 [] (.step 5 [] (.step 6 [] (.step 7 [] (.step 8 [] (.step 9 [] (.step 10 [] (.step 11 [] (.step 12 [] (.step 13 [] (.step 14 [] .nil))))))))))))))), false⟩
  | _ => ⟨[], .nil, false⟩
theorem ok3 : okCode Tryd.prog sch3 (bodyOf Tryd.f3) = true := by kernel_rfl
theorem en3 {args : List SV} {H : SH} {K : SV → SH → Prop} (h : forceL (args ++ List.replicate (Tryd.f3.ntmps - args.length) (.raw undef)) fun ts => ex Tryd.prog sch3 (bodyOf Tryd.f3) ts H (retK Tryd.prog Tryd.f3.results.toList K)) : FnOb Tryd.prog 3 args H K := fnOb_of_ex mixed Tryd.func3 rfl (by decide) ok3 h
def sch4 : Nat → Sched
  | 10 => ⟨[0, 0, 2, 6, 15, 0, 32, 96, 0, 511, 1023], (.step 0 [] (.step 1 [] (.step 2 [] (.step 3 [] (.step 5 [] (.step 6 [] (.step 7 [] (.step 8 [] (.step 4 [7] (.step 9 [] (.step 10 [] .nil))))))))))), false⟩
  | _ => ⟨[], .nil, false⟩
theorem ok4 : okCode Tryd.prog sch4 (bodyOf Tryd.f4) = true := by kernel_rfl
theorem en4 {args : List SV} {H : SH} {K : SV → SH → Prop} (h : forceL (args ++ List.replicate (Tryd.f4.ntmps - args.length) (.raw undef)) fun ts => ex Tryd.prog sch4 (bodyOf Tryd.f4) ts H (retK Tryd.prog Tryd.f4.results.toList K)) : FnOb Tryd.prog 4 args H K := fnOb_of_ex mixed Tryd.func4 rfl (by decide) ok4 h
def sch5 : Nat → Sched
  | 34 => ⟨[0, 1, 3, 7, 15, 31, 63, 127, 127, 511, 127, 2047, 127, 127, 12415, 28799, 65535, 131071, 262143], (.step 0 [] (.step 1 [] (.step 2 [] (.step 3 [] (.step 4 [] (.step 5 [] (.step 6 [] (.step 8 [] (.step 10 [] (.step 12 [] (.step 13 [] (.step 14 [] (.step 15 [] (.step 7 [15] (.step 9 [15] (.step 11 [15] (.step 16 [] (.step 17 [] (.step 18 [] .nil))))))))))))))))))), false⟩
  | _ => ⟨[], .nil, false⟩
theorem ok5 : okCode Tryd.prog sch5 (bodyOf Tryd.f5) = true := by kernel_rfl
theorem en5 {args : List SV} {H : SH} {K : SV → SH → Prop} (h : forceL (args ++ List.replicate (Tryd.f5.ntmps - args.length) (.raw undef)) fun ts => ex Tryd.prog sch5 (bodyOf Tryd.f5) ts H (retK Tryd.prog Tryd.f5.results.toList K)) : FnOb Tryd.prog 5 args H K := fnOb_of_ex mixed Tryd.func5 rfl (by decide) ok5 h
def sch6 : Nat → Sched
  | 26 => ⟨[0, 0, 0, 0, 12, 28, 0, 0, 192, 448, 960, 2044, 4095, 8191], (.step 0 [] (.step 1 [] (.step 2 [] (.step 3 [] (.step 4 [] (.step 5 [] (.step 6 [] (.step 7 [] (.step 8 [] (.step 9 [] (.step 10 [] (.step 11 [] (.step 12 [] (.step 13 [] .nil)))))))))))))), false⟩
  | 43 => ⟨[0, 0, 2, 7, 15, 31, 31, 127, 255, 31, 1023, 2047], (.step 0 [] (.step 1 [] (.step 2 [] (.step 3 [] (.step 4 [] (.step 5 [] (.step 6 [] (.step 7 [] (.step 8 [] (.step 9 [] (.step 10 [] (.step 11 [] .nil)))))))))))), false⟩
  | _ => ⟨[], .nil, false⟩
theorem ok6 : okCode Tryd.prog sch6 (bodyOf Tryd.f6) = true := by kernel_rfl
theorem en6 {args : List SV} {H : SH} {K : SV → SH → Prop} (h : forceL (args ++ List.replicate (Tryd.f6.ntmps - args.length) (.raw undef)) fun ts => ex Tryd.prog sch6 (bodyOf Tryd.f6) ts H (retK Tryd.prog Tryd.f6.results.toList K)) : FnOb Tryd.prog 6 args H K := fnOb_of_ex mixed Tryd.func6 rfl (by decide) ok6 h
def sch7 : Nat → Sched
  | _ => ⟨[], .nil, false⟩
theorem ok7 : okCode Tryd.prog sch7 (bodyOf Tryd.f7) = true := by kernel_rfl
theorem en7 {args : List SV} {H : SH} {K : SV → SH → Prop} (h : forceL (args ++ List.replicate (Tryd.f7.ntmps - args.length) (.raw undef)) fun ts => ex Tryd.prog sch7 (bodyOf Tryd.f7) ts H (retK Tryd.prog Tryd.f7.results.toList K)) : FnOb Tryd.prog 7 args H K := fnOb_of_ex mixed Tryd.func7 rfl (by decide) ok7 h
def sch8 : Nat → Sched
  | _ => ⟨[], .nil, false⟩
theorem ok8 : okCode Tryd.prog sch8 (bodyOf Tryd.f8) = true := by kernel_rfl
theorem en8 {args : List SV} {H : SH} {K : SV → SH → Prop} (h : forceL (args ++ List.replicate (Tryd.f8.ntmps - args.length) (.raw undef)) fun ts => ex Tryd.prog sch8 (bodyOf Tryd.f8) ts H (retK Tryd.prog Tryd.f8.results.toList K)) : FnOb Tryd.prog 8 args H K := fnOb_of_ex mixed Tryd.func8 rfl (by decide) ok8 h
def sch9 : Nat → Sched
  | _ => ⟨[], .nil, false⟩
theorem ok9 : okCode Tryd.prog sch9 (bodyOf Tryd.f9) = true := by kernel_rfl
theorem en9 {args : List SV} {H : SH} {K : SV → SH → Prop} (h : forceL (args ++ List.replicate (Tryd.f9.ntmps - args.length) (.raw undef)) fun ts => ex Tryd.prog sch9 (bodyOf Tryd.f9) ts H (retK Tryd.prog Tryd.f9.results.toList K)) : FnOb Tryd.prog 9 args H K := fnOb_of_ex mixed Tryd.func9 rfl (by decide) ok9 h
def sch10 : Nat → Sched
  | 8 => ⟨[0, 1, 3, 7, 0, 0, 32, 96, 224, 0, 992, 2016, 0, 4096, 16352, 32767, 65535], (.step 0 [] (.step 1 [] (.step 2 [] (.step 3 [] (.step 4 [] (.step 5 [] (.step 6 [] (.step 7 [] (.step 8 [] (.step 9 [] (.step 10 [] (.step 11 [] (.step 12 [] (.step 13 [3, 8, 11] (.step 14 [3] (.step 15 [] (.step 16 [] .nil))))))))))))))))), false⟩
  | _ => ⟨[], .nil, false⟩
theorem ok10 : okCode Tryd.prog sch10 (bodyOf Tryd.f10) = true := by kernel_rfl
theorem en10 {args : List SV} {H : SH} {K : SV → SH → Prop} (h : forceL (args ++ List.replicate (Tryd.f10.ntmps - args.length) (.raw undef)) fun ts => ex Tryd.prog sch10 (bodyOf Tryd.f10) ts H (retK Tryd.prog Tryd.f10.results.toList K)) : FnOb Tryd.prog 10 args H K := fnOb_of_ex mixed Tryd.func10 rfl (by decide) ok10 h
def sch11 : Nat → Sched
  | _ => ⟨[], .nil, false⟩
theorem ok11 : okCode Tryd.prog sch11 (bodyOf Tryd.f11) = true := by kernel_rfl
theorem en11 {args : List SV} {H : SH} {K : SV → SH → Prop} (h : forceL (args ++ List.replicate (Tryd.f11.ntmps - args.length) (.raw undef)) fun ts => ex Tryd.prog sch11 (bodyOf Tryd.f11) ts H (retK Tryd.prog Tryd.f11.results.toList K)) : FnOb Tryd.prog 11 args H K := fnOb_of_ex mixed Tryd.func11 rfl (by decide) ok11 h
def sch12 : Nat → Sched
  | _ => ⟨[], .nil, false⟩
theorem ok12 : okCode Tryd.prog sch12 (bodyOf Tryd.f12) = true := by kernel_rfl
theorem en12 {args : List SV} {H : SH} {K : SV → SH → Prop} (h : forceL (args ++ List.replicate (Tryd.f12.ntmps - args.length) (.raw undef)) fun ts => ex Tryd.prog sch12 (bodyOf Tryd.f12) ts H (retK Tryd.prog Tryd.f12.results.toList K)) : FnOb Tryd.prog 12 args H K := fnOb_of_ex mixed Tryd.func12 rfl (by decide) ok12 h
-- function 13: ['region 6: 3 orders are open']
def sch13 : Nat → Sched
  | 3 => ⟨[0, 1, 0, 4, 12, 28, 60, 127, 255], (.step 0 [] (.step 1 [] (.step 2 [] (.step 3 [] (.step 4 [] (.step 5 [] (.step 6 [] (.step 7 [] (.step 8 [] .nil))))))))), false⟩
  | 6 => ⟨[0, 1, 3, 7, 0, 0, 0, 64, 192, 448, 0, 1984, 4032, 8160, 0, 16384, 65504, 131071, 262143], (.step 0 [] (.step 1 [] (.step 2 [] (.step 3 [] (.step 4 [] (.step 6 [] (.step 7 [] (.step 8 [] (.step 9 [] (.step 10 [] (.step 11 [] (.step 12 [] (.step 14 [] (.alt (.step 5 [3, 9, 12, 14] (.alt (.step 13 [3, 14] (.step 15 [3, 9, 12] (.step 16 [3] (.step 17 [] (.step 18 [] .nil))))) (.step 15 [3, 9, 12] (.step 13 [3, 14] (.step 16 [3] (.step 17 [] (.step 18 [] .nil))))))) (.step 15 [3, 9, 12] (.step 5 [3, 9, 12, 14] (.step 13 [3, 14] (.step 16 [3] (.step 17 [] (.step 18 [] .nil)))))))))))))))))))), true⟩
  | 7 => ⟨[0, 0, 2, 6, 14, 0, 62, 126, 254, 510, 1, 2047, 4095], (.step 0 [] (.step 1 [] (.step 2 [] (.step 3 [] (.step 4 [] (.step 5 [] (.step 6 [] (.step 7 [] (.step 8 [] (.step 9 [] (.step 10 [4, 7] (.step 11 [] (.step 12 [] .nil))))))))))))), false⟩
  | _ => ⟨[], .nil, false⟩
theorem ok13 : okCode Tryd.prog sch13 (bodyOf Tryd.f13) = true := by kernel_rfl
theorem en13 {args : List SV} {H : SH} {K : SV → SH → Prop} (h : forceL (args ++ List.replicate (Tryd.f13.ntmps - args.length) (.raw undef)) fun ts => ex Tryd.prog sch13 (bodyOf Tryd.f13) ts H (retK Tryd.prog Tryd.f13.results.toList K)) : FnOb Tryd.prog 13 args H K := fnOb_of_ex mixed Tryd.func13 rfl (by decide) ok13 h
def sch14 : Nat → Sched
  | _ => ⟨[], .nil, false⟩
theorem ok14 : okCode Tryd.prog sch14 (bodyOf Tryd.f14) = true := by kernel_rfl
theorem en14 {args : List SV} {H : SH} {K : SV → SH → Prop} (h : forceL (args ++ List.replicate (Tryd.f14.ntmps - args.length) (.raw undef)) fun ts => ex Tryd.prog sch14 (bodyOf Tryd.f14) ts H (retK Tryd.prog Tryd.f14.results.toList K)) : FnOb Tryd.prog 14 args H K := fnOb_of_ex mixed Tryd.func14 rfl (by decide) ok14 h
def sch15 : Nat → Sched
  | _ => ⟨[], .nil, false⟩
theorem ok15 : okCode Tryd.prog sch15 (bodyOf Tryd.f15) = true := by kernel_rfl
theorem en15 {args : List SV} {H : SH} {K : SV → SH → Prop} (h : forceL (args ++ List.replicate (Tryd.f15.ntmps - args.length) (.raw undef)) fun ts => ex Tryd.prog sch15 (bodyOf Tryd.f15) ts H (retK Tryd.prog Tryd.f15.results.toList K)) : FnOb Tryd.prog 15 args H K := fnOb_of_ex mixed Tryd.func15 rfl (by decide) ok15 h
def sch16 : Nat → Sched
  | 6 => ⟨[0, 0, 3, 7, 0, 0, 48, 112, 255], (.step 0 [] (.step 1 [] (.step 2 [] (.step 3 [] (.step 4 [] (.step 5 [] (.step 6 [] (.step 7 [] (.step 8 [] .nil))))))))), false⟩
  | _ => ⟨[], .nil, false⟩
theorem ok16 : okCode Tryd.prog sch16 (bodyOf Tryd.f16) = true := by kernel_rfl
theorem en16 {args : List SV} {H : SH} {K : SV → SH → Prop} (h : forceL (args ++ List.replicate (Tryd.f16.ntmps - args.length) (.raw undef)) fun ts => ex Tryd.prog sch16 (bodyOf Tryd.f16) ts H (retK Tryd.prog Tryd.f16.results.toList K)) : FnOb Tryd.prog 16 args H K := fnOb_of_ex mixed Tryd.func16 rfl (by decide) ok16 h
def sch17 : Nat → Sched
  | _ => ⟨[], .nil, false⟩
theorem ok17 : okCode Tryd.prog sch17 (bodyOf Tryd.f17) = true := by kernel_rfl
theorem en17 {args : List SV} {H : SH} {K : SV → SH → Prop} (h : forceL (args ++ List.replicate (Tryd.f17.ntmps - args.length) (.raw undef)) fun ts => ex Tryd.prog sch17 (bodyOf Tryd.f17) ts H (retK Tryd.prog Tryd.f17.results.toList K)) : FnOb Tryd.prog 17 args H K := fnOb_of_ex mixed Tryd.func17 rfl (by decide) ok17 h
def sch18 : Nat → Sched
  | 6 => ⟨[0, 0, 3, 7, 15, 31, 63, 63, 255, 511, 63, 1087, 3135, 7231, 63, 31807, 64575, 130111, 262143, 524287], (.step 0 [] (.step 1 [] (.step 2 [] (.step 3 [] (.step 4 [] (.step 5 [] (.step 6 [] (.step 7 [] (.step 8 [] (.step 9 [] (.step 10 [] (.step 11 [] (.step 12 [] (.step 13 [] (.step 14 [] (.step 15 [] (.step 16 [] (.step 17 [] (.step 18 [] (.step 19 [] .nil)))))))))))))))))))), false⟩
  | 11 => ⟨[0, 1, 3, 7, 0, 31, 63, 0, 0, 384, 896, 2047, 4095, 0], (.step 0 [] (.step 1 [] (.step 2 [] (.step 3 [] (.step 4 [] (.step 5 [] (.step 6 [] (.step 7 [] (.step 8 [] (.step 9 [] (.step 10 [] (.step 11 [] (.step 12 [] (.step 13 [] .nil)))))))))))))), false⟩
  | _ => ⟨[], .nil, false⟩
theorem ok18 : okCode Tryd.prog sch18 (bodyOf Tryd.f18) = true := by kernel_rfl
theorem en18 {args : List SV} {H : SH} {K : SV → SH → Prop} (h : forceL (args ++ List.replicate (Tryd.f18.ntmps - args.length) (.raw undef)) fun ts => ex Tryd.prog sch18 (bodyOf Tryd.f18) ts H (retK Tryd.prog Tryd.f18.results.toList K)) : FnOb Tryd.prog 18 args H K := fnOb_of_ex mixed Tryd.func18 rfl (by decide) ok18 h
def sch19 : Nat → Sched
  | 6 => ⟨[0, 0, 3, 7, 15, 31, 63, 63, 255, 511, 63, 1087, 3135, 7231, 63, 31807, 64575, 130111, 262143, 524287], (.step 0 [] (.step 1 [] (.step 2 [] (.step 3 [] (.step 4 [] (.step 5 [] (.step 6 [] (.step 7 [] (.step 8 [] (.step 9 [] (.step 10 [] (.step 11 [] (.step 12 [] (.step 13 [] (.step 14 [] (.step 15 [] (.step 16 [] (.step 17 [] (.step 18 [] (.step 19 [] .nil)))))))))))))))))))), false⟩
  | _ => ⟨[], .nil, false⟩
theorem ok19 : okCode Tryd.prog sch19 (bodyOf Tryd.f19) = true := by kernel_rfl
theorem en19 {args : List SV} {H : SH} {K : SV → SH → Prop} (h : forceL (args ++ List.replicate (Tryd.f19.ntmps - args.length) (.raw undef)) fun ts => ex Tryd.prog sch19 (bodyOf Tryd.f19) ts H (retK Tryd.prog Tryd.f19.results.toList K)) : FnOb Tryd.prog 19 args H K := fnOb_of_ex mixed Tryd.func19 rfl (by decide) ok19 h
def sch20 : Nat → Sched
  | _ => ⟨[], .nil, false⟩
theorem ok20 : okCode Tryd.prog sch20 (bodyOf Tryd.f20) = true := by kernel_rfl
theorem en20 {args : List SV} {H : SH} {K : SV → SH → Prop} (h : forceL (args ++ List.replicate (Tryd.f20.ntmps - args.length) (.raw undef)) fun ts => ex Tryd.prog sch20 (bodyOf Tryd.f20) ts H (retK Tryd.prog Tryd.f20.results.toList K)) : FnOb Tryd.prog 20 args H K := fnOb_of_ex mixed Tryd.func20 rfl (by decide) ok20 h
def sch21 : Nat → Sched
  | _ => ⟨[], .nil, false⟩
theorem ok21 : okCode Tryd.prog sch21 (bodyOf Tryd.f21) = true := by kernel_rfl
theorem en21 {args : List SV} {H : SH} {K : SV → SH → Prop} (h : forceL (args ++ List.replicate (Tryd.f21.ntmps - args.length) (.raw undef)) fun ts => ex Tryd.prog sch21 (bodyOf Tryd.f21) ts H (retK Tryd.prog Tryd.f21.results.toList K)) : FnOb Tryd.prog 21 args H K := fnOb_of_ex mixed Tryd.func21 rfl (by decide) ok21 h
def sch22 : Nat → Sched
  | _ => ⟨[], .nil, false⟩
theorem ok22 : okCode Tryd.prog sch22 (bodyOf Tryd.f22) = true := by kernel_rfl
theorem en22 {args : List SV} {H : SH} {K : SV → SH → Prop} (h : forceL (args ++ List.replicate (Tryd.f22.ntmps - args.length) (.raw undef)) fun ts => ex Tryd.prog sch22 (bodyOf Tryd.f22) ts H (retK Tryd.prog Tryd.f22.results.toList K)) : FnOb Tryd.prog 22 args H K := fnOb_of_ex mixed Tryd.func22 rfl (by decide) ok22 h
def sch23 : Nat → Sched
  | 6 => ⟨[0, 0, 3, 7, 0, 0, 48, 112, 255], (.step 0 [] (.step 1 [] (.step 2 [] (.step 3 [] (.step 4 [] (.step 5 [] (.step 6 [] (.step 7 [] (.step 8 [] .nil))))))))), false⟩
  | _ => ⟨[], .nil, false⟩
theorem ok23 : okCode Tryd.prog sch23 (bodyOf Tryd.f23) = true := by kernel_rfl
theorem en23 {args : List SV} {H : SH} {K : SV → SH → Prop} (h : forceL (args ++ List.replicate (Tryd.f23.ntmps - args.length) (.raw undef)) fun ts => ex Tryd.prog sch23 (bodyOf Tryd.f23) ts H (retK Tryd.prog Tryd.f23.results.toList K)) : FnOb Tryd.prog 23 args H K := fnOb_of_ex mixed Tryd.func23 rfl (by decide) ok23 h
def sch24 : Nat → Sched
  | _ => ⟨[], .nil, false⟩
theorem ok24 : okCode Tryd.prog sch24 (bodyOf Tryd.f24) = true := by kernel_rfl
theorem en24 {args : List SV} {H : SH} {K : SV → SH → Prop} (h : forceL (args ++ List.replicate (Tryd.f24.ntmps - args.length) (.raw undef)) fun ts => ex Tryd.prog sch24 (bodyOf Tryd.f24) ts H (retK Tryd.prog Tryd.f24.results.toList K)) : FnOb Tryd.prog 24 args H K := fnOb_of_ex mixed Tryd.func24 rfl (by decide) ok24 h
def sch25 : Nat → Sched
  | _ => ⟨[], .nil, false⟩
theorem ok25 : okCode Tryd.prog sch25 (bodyOf Tryd.f25) = true := by kernel_rfl
theorem en25 {args : List SV} {H : SH} {K : SV → SH → Prop} (h : forceL (args ++ List.replicate (Tryd.f25.ntmps - args.length) (.raw undef)) fun ts => ex Tryd.prog sch25 (bodyOf Tryd.f25) ts H (retK Tryd.prog Tryd.f25.results.toList K)) : FnOb Tryd.prog 25 args H K := fnOb_of_ex mixed Tryd.func25 rfl (by decide) ok25 h
def sch26 : Nat → Sched
  | _ => ⟨[], .nil, false⟩
theorem ok26 : okCode Tryd.prog sch26 (bodyOf Tryd.f26) = true := by kernel_rfl
theorem en26 {args : List SV} {H : SH} {K : SV → SH → Prop} (h : forceL (args ++ List.replicate (Tryd.f26.ntmps - args.length) (.raw undef)) fun ts => ex Tryd.prog sch26 (bodyOf Tryd.f26) ts H (retK Tryd.prog Tryd.f26.results.toList K)) : FnOb Tryd.prog 26 args H K := fnOb_of_ex mixed Tryd.func26 rfl (by decide) ok26 h
def sch27 : Nat → Sched
  | _ => ⟨[], .nil, false⟩
theorem ok27 : okCode Tryd.prog sch27 (bodyOf Tryd.f27) = true := by kernel_rfl
theorem en27 {args : List SV} {H : SH} {K : SV → SH → Prop} (h : forceL (args ++ List.replicate (Tryd.f27.ntmps - args.length) (.raw undef)) fun ts => ex Tryd.prog sch27 (bodyOf Tryd.f27) ts H (retK Tryd.prog Tryd.f27.results.toList K)) : FnOb Tryd.prog 27 args H K := fnOb_of_ex mixed Tryd.func27 rfl (by decide) ok27 h
def sch28 : Nat → Sched
  | _ => ⟨[], .nil, false⟩
theorem ok28 : okCode Tryd.prog sch28 (bodyOf Tryd.f28) = true := by kernel_rfl
theorem en28 {args : List SV} {H : SH} {K : SV → SH → Prop} (h : forceL (args ++ List.replicate (Tryd.f28.ntmps - args.length) (.raw undef)) fun ts => ex Tryd.prog sch28 (bodyOf Tryd.f28) ts H (retK Tryd.prog Tryd.f28.results.toList K)) : FnOb Tryd.prog 28 args H K := fnOb_of_ex mixed Tryd.func28 rfl (by decide) ok28 h
def sch29 : Nat → Sched
  | _ => ⟨[], .nil, false⟩
theorem ok29 : okCode Tryd.prog sch29 (bodyOf Tryd.f29) = true := by kernel_rfl
theorem en29 {args : List SV} {H : SH} {K : SV → SH → Prop} (h : forceL (args ++ List.replicate (Tryd.f29.ntmps - args.length) (.raw undef)) fun ts => ex Tryd.prog sch29 (bodyOf Tryd.f29) ts H (retK Tryd.prog Tryd.f29.results.toList K)) : FnOb Tryd.prog 29 args H K := fnOb_of_ex mixed Tryd.func29 rfl (by decide) ok29 h
def sch30 : Nat → Sched
  | _ => ⟨[], .nil, false⟩
theorem ok30 : okCode Tryd.prog sch30 (bodyOf Tryd.f30) = true := by kernel_rfl
theorem en30 {args : List SV} {H : SH} {K : SV → SH → Prop} (h : forceL (args ++ List.replicate (Tryd.f30.ntmps - args.length) (.raw undef)) fun ts => ex Tryd.prog sch30 (bodyOf Tryd.f30) ts H (retK Tryd.prog Tryd.f30.results.toList K)) : FnOb Tryd.prog 30 args H K := fnOb_of_ex mixed Tryd.func30 rfl (by decide) ok30 h
def sch31 : Nat → Sched
  | 4 => ⟨[0, 0, 2, 7, 0, 16, 63, 127], (.step 0 [] (.step 1 [] (.step 2 [] (.step 4 [] (.step 5 [] (.step 3 [] (.step 6 [] (.step 7 [] .nil)))))))), false⟩
  | _ => ⟨[], .nil, false⟩
theorem ok31 : okCode Tryd.prog sch31 (bodyOf Tryd.f31) = true := by kernel_rfl
theorem en31 {args : List SV} {H : SH} {K : SV → SH → Prop} (h : forceL (args ++ List.replicate (Tryd.f31.ntmps - args.length) (.raw undef)) fun ts => ex Tryd.prog sch31 (bodyOf Tryd.f31) ts H (retK Tryd.prog Tryd.f31.results.toList K)) : FnOb Tryd.prog 31 args H K := fnOb_of_ex mixed Tryd.func31 rfl (by decide) ok31 h
def sch32 : Nat → Sched
  | _ => ⟨[], .nil, false⟩
theorem ok32 : okCode Tryd.prog sch32 (bodyOf Tryd.f32) = true := by kernel_rfl
theorem en32 {args : List SV} {H : SH} {K : SV → SH → Prop} (h : forceL (args ++ List.replicate (Tryd.f32.ntmps - args.length) (.raw undef)) fun ts => ex Tryd.prog sch32 (bodyOf Tryd.f32) ts H (retK Tryd.prog Tryd.f32.results.toList K)) : FnOb Tryd.prog 32 args H K := fnOb_of_ex mixed Tryd.func32 rfl (by decide) ok32 h
def sch33 : Nat → Sched
  | _ => ⟨[], .nil, false⟩
theorem ok33 : okCode Tryd.prog sch33 (bodyOf Tryd.f33) = true := by kernel_rfl
theorem en33 {args : List SV} {H : SH} {K : SV → SH → Prop} (h : forceL (args ++ List.replicate (Tryd.f33.ntmps - args.length) (.raw undef)) fun ts => ex Tryd.prog sch33 (bodyOf Tryd.f33) ts H (retK Tryd.prog Tryd.f33.results.toList K)) : FnOb Tryd.prog 33 args H K := fnOb_of_ex mixed Tryd.func33 rfl (by decide) ok33 h
def sch34 : Nat → Sched
  | _ => ⟨[], .nil, false⟩
theorem ok34 : okCode Tryd.prog sch34 (bodyOf Tryd.f34) = true := by kernel_rfl
theorem en34 {args : List SV} {H : SH} {K : SV → SH → Prop} (h : forceL (args ++ List.replicate (Tryd.f34.ntmps - args.length) (.raw undef)) fun ts => ex Tryd.prog sch34 (bodyOf Tryd.f34) ts H (retK Tryd.prog Tryd.f34.results.toList K)) : FnOb Tryd.prog 34 args H K := fnOb_of_ex mixed Tryd.func34 rfl (by decide) ok34 h
def sch35 : Nat → Sched
  | _ => ⟨[], .nil, false⟩
theorem ok35 : okCode Tryd.prog sch35 (bodyOf Tryd.f35) = true := by kernel_rfl
theorem en35 {args : List SV} {H : SH} {K : SV → SH → Prop} (h : forceL (args ++ List.replicate (Tryd.f35.ntmps - args.length) (.raw undef)) fun ts => ex Tryd.prog sch35 (bodyOf Tryd.f35) ts H (retK Tryd.prog Tryd.f35.results.toList K)) : FnOb Tryd.prog 35 args H K := fnOb_of_ex mixed Tryd.func35 rfl (by decide) ok35 h
def sch36 : Nat → Sched
  | _ => ⟨[], .nil, false⟩
theorem ok36 : okCode Tryd.prog sch36 (bodyOf Tryd.f36) = true := by kernel_rfl
theorem en36 {args : List SV} {H : SH} {K : SV → SH → Prop} (h : forceL (args ++ List.replicate (Tryd.f36.ntmps - args.length) (.raw undef)) fun ts => ex Tryd.prog sch36 (bodyOf Tryd.f36) ts H (retK Tryd.prog Tryd.f36.results.toList K)) : FnOb Tryd.prog 36 args H K := fnOb_of_ex mixed Tryd.func36 rfl (by decide) ok36 h
def sch37 : Nat → Sched
  | _ => ⟨[], .nil, false⟩
theorem ok37 : okCode Tryd.prog sch37 (bodyOf Tryd.f37) = true := by kernel_rfl
theorem en37 {args : List SV} {H : SH} {K : SV → SH → Prop} (h : forceL (args ++ List.replicate (Tryd.f37.ntmps - args.length) (.raw undef)) fun ts => ex Tryd.prog sch37 (bodyOf Tryd.f37) ts H (retK Tryd.prog Tryd.f37.results.toList K)) : FnOb Tryd.prog 37 args H K := fnOb_of_ex mixed Tryd.func37 rfl (by decide) ok37 h
def sch38 : Nat → Sched
  | _ => ⟨[], .nil, false⟩
theorem ok38 : okCode Tryd.prog sch38 (bodyOf Tryd.f38) = true := by kernel_rfl
theorem en38 {args : List SV} {H : SH} {K : SV → SH → Prop} (h : forceL (args ++ List.replicate (Tryd.f38.ntmps - args.length) (.raw undef)) fun ts => ex Tryd.prog sch38 (bodyOf Tryd.f38) ts H (retK Tryd.prog Tryd.f38.results.toList K)) : FnOb Tryd.prog 38 args H K := fnOb_of_ex mixed Tryd.func38 rfl (by decide) ok38 h
def sch39 : Nat → Sched
  | _ => ⟨[], .nil, false⟩
theorem ok39 : okCode Tryd.prog sch39 (bodyOf Tryd.f39) = true := by kernel_rfl
theorem en39 {args : List SV} {H : SH} {K : SV → SH → Prop} (h : forceL (args ++ List.replicate (Tryd.f39.ntmps - args.length) (.raw undef)) fun ts => ex Tryd.prog sch39 (bodyOf Tryd.f39) ts H (retK Tryd.prog Tryd.f39.results.toList K)) : FnOb Tryd.prog 39 args H K := fnOb_of_ex mixed Tryd.func39 rfl (by decide) ok39 h
def sch40 : Nat → Sched
  | _ => ⟨[], .nil, false⟩
theorem ok40 : okCode Tryd.prog sch40 (bodyOf Tryd.f40) = true := by kernel_rfl
theorem en40 {args : List SV} {H : SH} {K : SV → SH → Prop} (h : forceL (args ++ List.replicate (Tryd.f40.ntmps - args.length) (.raw undef)) fun ts => ex Tryd.prog sch40 (bodyOf Tryd.f40) ts H (retK Tryd.prog Tryd.f40.results.toList K)) : FnOb Tryd.prog 40 args H K := fnOb_of_ex mixed Tryd.func40 rfl (by decide) ok40 h
def sch41 : Nat → Sched
  | _ => ⟨[], .nil, false⟩
theorem ok41 : okCode Tryd.prog sch41 (bodyOf Tryd.f41) = true := by kernel_rfl
theorem en41 {args : List SV} {H : SH} {K : SV → SH → Prop} (h : forceL (args ++ List.replicate (Tryd.f41.ntmps - args.length) (.raw undef)) fun ts => ex Tryd.prog sch41 (bodyOf Tryd.f41) ts H (retK Tryd.prog Tryd.f41.results.toList K)) : FnOb Tryd.prog 41 args H K := fnOb_of_ex mixed Tryd.func41 rfl (by decide) ok41 h
def sch42 : Nat → Sched
  | _ => ⟨[], .nil, false⟩
theorem ok42 : okCode Tryd.prog sch42 (bodyOf Tryd.f42) = true := by kernel_rfl
theorem en42 {args : List SV} {H : SH} {K : SV → SH → Prop} (h : forceL (args ++ List.replicate (Tryd.f42.ntmps - args.length) (.raw undef)) fun ts => ex Tryd.prog sch42 (bodyOf Tryd.f42) ts H (retK Tryd.prog Tryd.f42.results.toList K)) : FnOb Tryd.prog 42 args H K := fnOb_of_ex mixed Tryd.func42 rfl (by decide) ok42 h
def sch43 : Nat → Sched
  | _ => ⟨[], .nil, false⟩
theorem ok43 : okCode Tryd.prog sch43 (bodyOf Tryd.f43) = true := by kernel_rfl
theorem en43 {args : List SV} {H : SH} {K : SV → SH → Prop} (h : forceL (args ++ List.replicate (Tryd.f43.ntmps - args.length) (.raw undef)) fun ts => ex Tryd.prog sch43 (bodyOf Tryd.f43) ts H (retK Tryd.prog Tryd.f43.results.toList K)) : FnOb Tryd.prog 43 args H K := fnOb_of_ex mixed Tryd.func43 rfl (by decide) ok43 h
def sch44 : Nat → Sched
  | 6 => ⟨[0, 0, 3, 0, 0, 24, 63], (.step 0 [] (.step 1 [] (.step 2 [] (.step 3 [] (.step 4 [] (.step 5 [] (.step 6 [] .nil))))))), false⟩
  | 7 => ⟨[0, 0, 2, 7, 0, 0, 48, 127, 255], (.step 0 [] (.step 1 [] (.step 2 [] (.step 3 [] (.step 4 [] (.step 5 [] (.step 6 [] (.step 7 [] (.step 8 [] .nil))))))))), false⟩
  | 14 => ⟨[0, 0, 0, 6, 15, 0, 0, 0, 192, 480, 1023], (.step 0 [] (.step 1 [] (.step 2 [] (.step 3 [] (.step 4 [] (.step 5 [] (.step 6 [] (.step 7 [] (.step 8 [] (.step 9 [] (.step 10 [] .nil))))))))))), false⟩
  | 31 => ⟨[0, 0, 0, 6, 15, 0, 0, 0, 192, 480, 1023], (.step 0 [] (.step 1 [] (.step 2 [] (.step 3 [] (.step 4 [] (.step 5 [] (.step 6 [] (.step 7 [] (.step 8 [] (.step 9 [] (.step 10 [] .nil))))))))))), false⟩
  | _ => ⟨[], .nil, false⟩
theorem ok44 : okCode Tryd.prog sch44 (bodyOf Tryd.f44) = true := by kernel_rfl
theorem en44 {args : List SV} {H : SH} {K : SV → SH → Prop} (h : forceL (args ++ List.replicate (Tryd.f44.ntmps - args.length) (.raw undef)) fun ts => ex Tryd.prog sch44 (bodyOf Tryd.f44) ts H (retK Tryd.prog Tryd.f44.results.toList K)) : FnOb Tryd.prog 44 args H K := fnOb_of_ex mixed Tryd.func44 rfl (by decide) ok44 h
def sch45 : Nat → Sched
  | _ => ⟨[], .nil, false⟩
theorem ok45 : okCode Tryd.prog sch45 (bodyOf Tryd.f45) = true := by kernel_rfl
theorem en45 {args : List SV} {H : SH} {K : SV → SH → Prop} (h : forceL (args ++ List.replicate (Tryd.f45.ntmps - args.length) (.raw undef)) fun ts => ex Tryd.prog sch45 (bodyOf Tryd.f45) ts H (retK Tryd.prog Tryd.f45.results.toList K)) : FnOb Tryd.prog 45 args H K := fnOb_of_ex mixed Tryd.func45 rfl (by decide) ok45 h
def sch46 : Nat → Sched
  | _ => ⟨[], .nil, false⟩
theorem ok46 : okCode Tryd.prog sch46 (bodyOf Tryd.f46) = true := by kernel_rfl
theorem en46 {args : List SV} {H : SH} {K : SV → SH → Prop} (h : forceL (args ++ List.replicate (Tryd.f46.ntmps - args.length) (.raw undef)) fun ts => ex Tryd.prog sch46 (bodyOf Tryd.f46) ts H (retK Tryd.prog Tryd.f46.results.toList K)) : FnOb Tryd.prog 46 args H K := fnOb_of_ex mixed Tryd.func46 rfl (by decide) ok46 h
def sch47 : Nat → Sched
  | _ => ⟨[], .nil, false⟩
theorem ok47 : okCode Tryd.prog sch47 (bodyOf Tryd.f47) = true := by kernel_rfl
theorem en47 {args : List SV} {H : SH} {K : SV → SH → Prop} (h : forceL (args ++ List.replicate (Tryd.f47.ntmps - args.length) (.raw undef)) fun ts => ex Tryd.prog sch47 (bodyOf Tryd.f47) ts H (retK Tryd.prog Tryd.f47.results.toList K)) : FnOb Tryd.prog 47 args H K := fnOb_of_ex mixed Tryd.func47 rfl (by decide) ok47 h
def sch48 : Nat → Sched
  | _ => ⟨[], .nil, false⟩
theorem ok48 : okCode Tryd.prog sch48 (bodyOf Tryd.f48) = true := by kernel_rfl
theorem en48 {args : List SV} {H : SH} {K : SV → SH → Prop} (h : forceL (args ++ List.replicate (Tryd.f48.ntmps - args.length) (.raw undef)) fun ts => ex Tryd.prog sch48 (bodyOf Tryd.f48) ts H (retK Tryd.prog Tryd.f48.results.toList K)) : FnOb Tryd.prog 48 args H K := fnOb_of_ex mixed Tryd.func48 rfl (by decide) ok48 h
def sch50 : Nat → Sched
  | _ => ⟨[], .nil, false⟩
theorem ok50 : okCode Tryd.prog sch50 (bodyOf Tryd.f50) = true := by kernel_rfl
theorem en50 {args : List SV} {H : SH} {K : SV → SH → Prop} (h : forceL (args ++ List.replicate (Tryd.f50.ntmps - args.length) (.raw undef)) fun ts => ex Tryd.prog sch50 (bodyOf Tryd.f50) ts H (retK Tryd.prog Tryd.f50.results.toList K)) : FnOb Tryd.prog 50 args H K := fnOb_of_ex mixed Tryd.func50 rfl (by decide) ok50 h
end Go.Proofs.YtgapmdkiijpmpaaDoor
