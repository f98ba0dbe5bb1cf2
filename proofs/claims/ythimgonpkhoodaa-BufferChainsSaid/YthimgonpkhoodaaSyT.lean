/- SY, part T: functions that defer calls. Own work. -/
import Derived.Test.YthimgonpkhoodaaSyS
import Derived.Defers
namespace Go.Sy
open Go.RowKit
set_option linter.unusedVariables false
set_option linter.unusedSimpArgs false

/-- A deferred call: the function, the arguments, what the closure has captured. -/
abbrev DS := FuncId × List SV × List SV
def dDen (d : DS) : Deferred := { target := .fn (.func d.1) (denL d.2.2).toArray, args := (denL d.2.1).toArray }
def actD (ts : List SV) (ds : List DS) : Act := ⟨(denL ts).toArray, ds.map dDen⟩

theorem actD_put (ts : List SV) (ds : List DS) (d : Option Tmp) (v : SV) : (actD ts ds).put d v.den = actD (putS ts d v) ds := by
  cases d with
  | none => rfl
  | some d => simp [actD, Act.put, putS, denL_eq, List.map_set]
theorem eval_actD (ts : List SV) (ds : List DS) : (actD ts ds).eval = fun x => (ev ts x).den := by
  funext x
  rw [ev_den]
  cases x <;> rfl
theorem actD_nil (ts : List SV) : actD ts [] = act ts := rfl

/-- A call that is entered as a deferred one. -/
structure FnObD (P : Program) (f : FuncId) (args : List SV) (H : SH) (K : SV → SH → Prop) : Prop where
  run : ∀ w, HSat w H → (callFunc f (denL args).toArray).run P w = .ok (.enter f (denL args).toArray) w ∧
    CallsD P f (denL args).toArray .returning w fun e u' w' => u' = .returning ∧ ∃ r H', e = .returned (SV.den r) ∧ HSat w' H' ∧ Ext w H w' H' ∧ K r H'

theorem run_enter {P : Program} {f : FuncId} {fn : Func} {c : Code} (hf : P.funcs[f]? = some fn) (hb : fn.body = some c) (hname : fn.name ≠ "runtime.NumGoroutine") (args : Array Value) (w : World) :
    (callFunc f args).run P w = .ok (.enter f args) w := by
  have hn : fn.body.isNone = false := by simp [hb]
  have h3' : (fn.name == "runtime.NumGoroutine") = false := by simpa using hname
  unfold callFunc
  refine (bind_run' (a := P) (w' := w) rfl).trans ?_
  simp only [hf, h3', hn, Bool.false_eq_true, if_false]
  rfl

theorem fnObD_of_ex {P : Program} (hm : P.follows .mixedOrders = true) {S : Nat → Sched} {f : FuncId} {fn : Func} {c : Code} (hf : P.funcs[f]? = some fn) (hb : fn.body = some c) (hname : fn.name ≠ "runtime.NumGoroutine")
    (hok : okCode P S c = true) {args : List SV} {H : SH} {K : SV → SH → Prop} (h : forceL (args ++ List.replicate (fn.ntmps - args.length) (.raw undef)) fun ts => ex P S c ts H (retK P fn.results.toList K)) : FnObD P f args H K := by
  rw [forceL_eq] at h
  refine ⟨fun w hw => ⟨run_enter hf hb hname _ w, ?_⟩⟩
  refine (callsD_of_wp (R := fun e w' => ∃ v, e = .returned v ∧ ∃ r H', v = SV.den r ∧ HSat w' H' ∧ Ext w H w' H' ∧ K r H') hf hb ?_).mono fun e u' w' ⟨h1, v, h2, r, H', h3, h4⟩ => ⟨h1, r, H', by rw [h2, h3], h4⟩
  rw [denL_args]
  exact wp_mono (ex_wp hm (w0 := w) (H0 := H) c _ H _ w hok h hw (Ext.refl _ _)) fun e a w' hq => retK_post hq

/-! ### regions -/
def opsE (P : Program) (all : Array Oper) (K : List SV → List DS → SH → Prop) (l : List Oper) : List SV → List DS → SH → Prop :=
  List.rec (motive := fun _ => List SV → List DS → SH → Prop) (fun ts ds H => K ts ds H)
    (fun o _ ih ts ds H => guardK all o ts
      (fun ts => match o.op with
        | .defer c => match c.callee with
          | .value f => match ev ts f with
            | .clo (.func g) fs cs => forceL (fs ++ c.args.toList.map (ev ts)) fun as => forceL cs fun cs => putK ts o.dst (.raw undef) fun ts => ih ts ((g, as, cs) :: ds) H
            | _ => False
          | _ => False
        | _ => if loud P o.op then doOp P o (ev ts) H (fun v H' => putK ts o.dst v fun ts => ih ts ds H') else rdOp P o.op (ev ts) H (fun v => putK ts o.dst v fun ts => ih ts ds H))
      (fun ts => putK ts o.dst (.raw undef) fun ts => ih ts ds H)) l

theorem opsE_cons (P : Program) (all : Array Oper) (K : List SV → List DS → SH → Prop) (o : Oper) (rest : List Oper) (ts : List SV) (ds : List DS) (H : SH) : opsE P all K (o :: rest) ts ds H = guardK all o ts
      (fun ts => match o.op with
        | .defer c => match c.callee with
          | .value f => match ev ts f with
            | .clo (.func g) fs cs => forceL (fs ++ c.args.toList.map (ev ts)) fun as => forceL cs fun cs => putK ts o.dst (.raw undef) fun ts => opsE P all K rest ts ((g, as, cs) :: ds) H
            | _ => False
          | _ => False
        | _ => if loud P o.op then doOp P o (ev ts) H (fun v H' => putK ts o.dst v fun ts => opsE P all K rest ts ds H') else rdOp P o.op (ev ts) H (fun v => putK ts o.dst v fun ts => opsE P all K rest ts ds H))
      (fun ts => putK ts o.dst (.raw undef) fun ts => opsE P all K rest ts ds H) := rfl

theorem did_wpD {P : Program} {o : Oper} {ts : List SV} {ds : List DS} {w : World} {H : SH} {K : SV → SH → Prop} {next : Act → World → Prop} {Q : Exit → Act → World → Prop} (h : Did P o (ev ts) w H K)
    (hn : ∀ v H' w', HSat w' H' → Ext w H w' H' → K v H' → next ((actD ts ds).put o.dst v.den) w') : o.wp P (actD ts ds) w next Q := by
  unfold Oper.wp
  rw [eval_actD]
  rcases h with ⟨v, H', w', hr, h1, h2, h3⟩ | ⟨f, args, hr, hc⟩
  · rcases hr with hr | ⟨hr, rfl⟩
    · rw [hr]; exact hn v H' w' h1 h2 h3
    · rw [hr]; exact hn _ H' w' h1 h2 h3
  · rw [hr, Oper.upon_enter]
    refine hc.mono fun e w' ⟨r, H', he, h1, h2, h3⟩ => ?_
    subst he
    exact hn r H' w' h1 h2 h3

theorem opsE_wp {P : Program} {all : Array Oper} {K : List SV → List DS → SH → Prop} {Q : Exit → Act → World → Prop} {w0 : World} {H0 : SH}
    (hQ : ∀ ts ds H w, HSat w H → Ext w0 H0 w H → K ts ds H → Q .normal (actD ts ds) w) : ∀ (l : List Oper) (ts : List SV) (ds : List DS) (H : SH) (w : World), HSat w H → Ext w0 H0 w H → opsE P all K l ts ds H → wpList P all Q l (actD ts ds) w
  | [], ts, ds, H, w, hw, hx, h => hQ ts ds H w hw hx h
  | o :: rest, ts, ds, H, w, hw, hx, h => by
    rw [opsE_cons] at h
    simp only [putK_eq, forceL_eq] at h
    obtain ⟨ts', hts, h⟩ := guardK_spec h
    have ha : actD ts ds = actD ts' ds := by simp [actD, hts]
    unfold wpList
    have hy : yielded all (actD ts ds).tmps = yielded all (act ts).tmps := rfl
    rw [hy]
    rw [ha]
    rcases h with ⟨hwt, h⟩ | ⟨hwt, h⟩
    · rw [if_pos hwt]
      refine .inl ?_
      have plain : (∀ c, o.op ≠ .defer c) → (if loud P o.op then doOp P o (ev ts') H (fun v H' => opsE P all K rest (putS ts' o.dst v) ds H') else rdOp P o.op (ev ts') H (fun v => opsE P all K rest (putS ts' o.dst v) ds H)) →
          o.wp P (actD ts' ds) w (wpList P all Q rest) Q := by
        intro _ h
        by_cases hl : loud P o.op = true
        · rw [if_pos hl] at h
          refine did_wpD (doOp_did hw h) fun v H' w' h1 h2 h3 => ?_
          rw [actD_put]
          exact opsE_wp hQ rest _ ds H' w' h1 (hx.trans h2) h3
        · rw [if_neg hl] at h
          refine did_wpD (rd_did hw h) fun v H' w' h1 h2 h3 => ?_
          obtain ⟨rfl, h3⟩ := h3
          rw [actD_put]
          exact opsE_wp hQ rest _ ds _ w' h1 (hx.trans h2) h3
      split at h
      · rename_i c hop
        split at h <;> try exact h.elim
        rename_i f hc
        split at h <;> try exact h.elim
        rename_i g fs cs hf
        unfold Oper.wp
        rw [eval_actD]
        have hr : (execOp (fun x => (ev ts' x).den) o).run P w = .ok (.defer (dDen (g, fs ++ c.args.toList.map (ev ts'), cs))) w := by
          obtain ⟨dst, op, ty, pos, after, guard⟩ := o
          simp only at hop
          subst hop
          obtain ⟨callee, args, argTypes⟩ := c
          simp only at hc
          subst hc
          have hargs := map_ofFn (ev ts') args
          simp only [execOp, resolve, hargs, hf, SV.den, Deferred.ofValue, Sem.run_bind, Sem.run_pure, Result.andThen, dDen]
          congr 3
          simp [denL_append]
        rw [hr, Oper.upon_defer]
        have e : ({ actD ts' ds with defers := dDen (g, fs ++ c.args.toList.map (ev ts'), cs) :: (actD ts' ds).defers } : Act) = actD ts' ((g, fs ++ c.args.toList.map (ev ts'), cs) :: ds) := rfl
        rw [e]
        have hput : (actD ts' ((g, fs ++ c.args.toList.map (ev ts'), cs) :: ds)).put o.dst undef = actD (putS ts' o.dst (.raw undef)) ((g, fs ++ c.args.toList.map (ev ts'), cs) :: ds) := actD_put ts' _ o.dst (.raw undef)
        rw [hput]
        exact opsE_wp hQ rest _ _ H w hw hx h
      · rename_i hnd
        exact plain (fun c hc => hnd c hc) h
    · rw [if_neg (by simp [hwt])]
      have hput : (actD ts' ds).put o.dst undef = actD (putS ts' o.dst (.raw undef)) ds := actD_put ts' ds o.dst (.raw undef)
      rw [hput]
      exact opsE_wp hQ rest _ ds H w hw hx h

/-! ### code -/
def liftE (w0 : World) (H0 : SH) (K : Exit → List SV → List DS → SH → Prop) : Exit → Act → World → Prop :=
  fun e a w => ∃ ts ds H, a = actD ts ds ∧ HSat w H ∧ Ext w0 H0 w H ∧ K e ts ds H

def exE (P : Program) (c : Code) : List SV → List DS → SH → (Exit → List SV → List DS → SH → Prop) → Prop :=
  Code.rec (motive := fun _ => List SV → List DS → SH → (Exit → List SV → List DS → SH → Prop) → Prop)
    (fun ts ds H K => K .normal ts ds H)
    (fun id ops draw ts ds H K => if draw then False else opsE P ops (K .normal) ops.toList ts ds H)
    (fun _ _ iha ihb ts ds H K => iha ts ds H fun e ts ds H => match e with
      | .normal => ihb ts ds H K
      | e => K e ts ds H)
    (fun c _ _ iha ihb ts ds H K => match ev ts c with
      | .bool t => (t = true → iha ts ds H K) ∧ (t = false → ihb ts ds H K)
      | _ => False)
    (fun id _ ih ts ds H K => ih ts ds H fun e ts ds H => match e with
      | .exit id' => if id' = id then K .normal ts ds H else K (.exit id') ts ds H
      | e => K e ts ds H)
    (fun _ _ _ _ _ _ => False)
    (fun _ _ _ _ _ _ _ _ _ _ => False)
    (fun id ts ds H K => K (.exit id) ts ds H)
    (fun _ ih ts ds H K => ih ts ds H fun e ts ds H => match e with
      | .goto _ => False
      | e => K e ts ds H)
    (fun _ ts ds H K => K .normal ts ds H)
    (fun _ _ _ _ _ => False)
    (fun ts ds H K => K .ret ts ds H)
    (fun _ _ _ _ _ => False) c

theorem exE_wp {P : Program} {w0 : World} {H0 : SH} : ∀ (c : Code) (ts : List SV) (ds : List DS) (H : SH) (K : Exit → List SV → List DS → SH → Prop) (w : World),
    exE P c ts ds H K → HSat w H → Ext w0 H0 w H → c.wp P (liftE w0 H0 K) (actD ts ds) w
  | .skip, ts, ds, H, K, w, h, hw, hx => wp_skip ⟨ts, ds, H, rfl, hw, hx, h⟩
  | .region id ops draw, ts, ds, H, K, w, h, hw, hx => by
    cases draw with
    | true => exact False.elim h
    | false =>
      replace h : opsE P ops (K .normal) ops.toList ts ds H := h
      exact wp_region_list (opsE_wp (fun ts ds H w h1 h2 h3 => ⟨ts, ds, H, rfl, h1, h2, h3⟩) _ ts ds H w hw hx h)
  | .seq a b, ts, ds, H, K, w, h, hw, hx => by
    replace h : exE P a ts ds H fun e ts ds H => match e with
      | .normal => exE P b ts ds H K
      | e => K e ts ds H := h
    refine wp_seq (wp_mono (exE_wp a ts ds H _ w h hw hx) fun e a' w' hq => ?_)
    obtain ⟨ts', ds', H', rfl, h1, h2, h3⟩ := hq
    cases e with
    | normal => exact exE_wp b ts' ds' H' K w' h3 h1 h2
    | _ => exact ⟨ts', ds', H', rfl, h1, h2, h3⟩
  | .cond c a b, ts, ds, H, K, w, h, hw, hx => by
    replace h : match ev ts c with
      | .bool t => (t = true → exE P a ts ds H K) ∧ (t = false → exE P b ts ds H K)
      | _ => False := h
    split at h <;> try exact h.elim
    rename_i t hc
    refine wp_cond_split (t := t) (by rw [eval_actD]; show (ev ts c).den = _; rw [hc]; rfl) (fun ht => ?_) (fun ht => ?_)
    · exact exE_wp a ts ds H K w (h.1 ht) hw hx
    · exact exE_wp b ts ds H K w (h.2 ht) hw hx
  | .block id c, ts, ds, H, K, w, h, hw, hx => by
    replace h : exE P c ts ds H fun e ts ds H => match e with
      | .exit id' => if id' = id then K .normal ts ds H else K (.exit id') ts ds H
      | e => K e ts ds H := h
    refine wp_block (wp_mono (exE_wp c ts ds H _ w h hw hx) fun e a' w' hq => ?_)
    obtain ⟨ts', ds', H', rfl, h1, h2, h3⟩ := hq
    cases e with
    | exit id' =>
      simp only [Exit.inBlock] at h3 ⊢
      split
      · rename_i he; rw [if_pos he] at h3; exact ⟨ts', ds', H', rfl, h1, h2, h3⟩
      · rename_i he; rw [if_neg he] at h3; exact ⟨ts', ds', H', rfl, h1, h2, h3⟩
    | _ => exact ⟨ts', ds', H', rfl, h1, h2, h3⟩
  | .exit id, ts, ds, H, K, w, h, hw, hx => wp_exit ⟨ts, ds, H, rfl, hw, hx, h⟩
  | .ret, ts, ds, H, K, w, h, hw, hx => wp_ret ⟨ts, ds, H, rfl, hw, hx, h⟩
  | .label _, ts, ds, H, K, w, h, hw, hx => wp_label ⟨ts, ds, H, rfl, hw, hx, h⟩
  | .scope c, ts, ds, H, K, w, h, hw, hx => by
    replace h : exE P c ts ds H fun e ts ds H => match e with
      | .goto _ => False
      | e => K e ts ds H := h
    refine wp_scope_straight (wp_mono (exE_wp c ts ds H _ w h hw hx) fun e a' w' hq => ?_)
    obtain ⟨ts', ds', H', rfl, h1, h2, h3⟩ := hq
    cases e with
    | goto l => exact h3.elim
    | _ => exact ⟨ts', ds', H', rfl, h1, h2, h3⟩
  | .loop _, _, _, _, _, _, h, _, _ => h.elim
  | .rangeFunc .., _, _, _, _, _, h, _, _ => h.elim
  | .goto _, _, _, _, _, _, h, _, _ => h.elim
  | .refuse _, _, _, _, _, _, h, _, _ => h.elim

/-! ### functions -/
def endK (P : Program) (rs : List ResultVar) (K : SV → SH → Prop) (ts : List SV) (H : SH) : Prop := resVals P ts H rs fun vs => match vs with
  | [v] => K v H
  | vs => K (.tup vs) H
/-- The deferred calls, the last one first. -/
def leaveK (P : Program) (rs : List ResultVar) (K : SV → SH → Prop) (ts : List SV) (ds : List DS) : SH → Prop :=
  List.rec (motive := fun _ => SH → Prop) (fun H => endK P rs K ts H) (fun d _ ih H => FnObD P d.1 (d.2.1 ++ d.2.2) H fun _ H' => ih H') ds
def retE (P : Program) (rs : List ResultVar) (K : SV → SH → Prop) : Exit → List SV → List DS → SH → Prop := fun e ts ds H => match e with
  | .normal | .ret => leaveK P rs K ts ds H
  | _ => False

theorem end_run {P : Program} {fn : Func} {K : SV → SH → Prop} {ts : List SV} {H : SH} {w : World} (hw : HSat w H) (h : endK P fn.results.toList K ts H) : ∃ v, (results fn (act ts).tmps).run P w = .ok (SV.den v) w ∧ K v H := by
  obtain ⟨vs, hk, hr⟩ := resVals_run (P := P) hw _ _ h
  have hres : (results fn (act ts).tmps).run P w = .ok (if h : (denL vs).toArray.size = 1 then (denL vs).toArray[0] else .tuple (denL vs).toArray) w := by
    unfold results
    refine (bind_run' (a := (denL vs).toArray) (w' := w) ?_).trans rfl
    rw [Array.mapM_eq_mapM_toList, Sem.run_map]
    exact (congrArg (fun r => Result.andThen r fun (a : List Value) w' => Result.ok a.toArray w') hr).trans rfl
  cases vs with
  | nil => exact ⟨.tup [], by rw [hres]; simp [denL, SV.den], hk⟩
  | cons v vs =>
    cases vs with
    | nil => exact ⟨v, by rw [hres]; simp [denL], hk⟩
    | cons u vs => exact ⟨.tup (v :: u :: vs), by rw [hres]; simp [denL, SV.den], hk⟩

theorem leave_spec {P : Program} {fn : Func} {K : SV → SH → Prop} {w0 : World} {H0 : SH} {ts : List SV} : ∀ (ds : List DS) (H : SH) (w : World), HSat w H → Ext w0 H0 w H → leaveK P fn.results.toList K ts ds H →
    Leaves P fn (act ts).tmps (fun e w' => ∃ v, e = .returned v ∧ ∃ r H', v = SV.den r ∧ HSat w' H' ∧ Ext w0 H0 w' H' ∧ K r H') (ds.map dDen) .returning w
  | [], H, w, hw, hx, h => by
    obtain ⟨v, hr, hk⟩ := end_run hw h
    exact ⟨_, hr, _, rfl, v, H, rfl, hw, hx, hk⟩
  | d :: ds, H, w, hw, hx, h => by
    obtain ⟨g, as, cs⟩ := d
    replace h : FnObD P g (as ++ cs) H fun _ H' => leaveK P fn.results.toList K ts ds H' := h
    obtain ⟨h1, h2⟩ := h.run w hw
    have ha : (denL (as ++ cs)).toArray = (denL as).toArray ++ (denL cs).toArray := by rw [denL_append]; simp
    refine leaves_cons (by simp) (f := g) (args := (denL (as ++ cs)).toArray) ?_ ?_
    · show (callFunc g ((denL as).toArray ++ (denL cs).toArray)).run P w = _
      rw [← ha]; exact h1
    · refine h2.mono fun e u' w' ⟨hu, r, H', he, hs, hx', hk⟩ => ?_
      subst he; subst hu
      exact leave_spec ds H' w' hs (hx.trans hx') hk

/-- The call of a function that defers calls. -/
theorem fnOb_of_exE {P : Program} {f : FuncId} {fn : Func} {c : Code} (hf : P.funcs[f]? = some fn) (hb : fn.body = some c) (hname : fn.name ≠ "runtime.NumGoroutine")
    {args : List SV} {H : SH} {K : SV → SH → Prop} (h : forceL (args ++ List.replicate (fn.ntmps - args.length) (.raw undef)) fun ts => exE P c ts [] H (retE P fn.results.toList K)) : FnOb P f args H K := by
  rw [forceL_eq] at h
  refine ⟨fun w hw => .inr ⟨run_enter hf hb hname _ w, ?_⟩⟩
  refine calls_of_wp_defers hf hb ?_
  rw [denL_args]
  refine wp_mono (exE_wp (w0 := w) (H0 := H) c _ [] H _ w h hw (Ext.refl _ _)) fun e a w' hq => ?_
  obtain ⟨ts, ds, H', rfl, h1, h2, h3⟩ := hq
  cases e with
  | normal => exact leave_spec ds H' w' h1 h2 h3
  | ret => exact leave_spec ds H' w' h1 h2 h3
  | _ => exact h3.elim
end Go.Sy
