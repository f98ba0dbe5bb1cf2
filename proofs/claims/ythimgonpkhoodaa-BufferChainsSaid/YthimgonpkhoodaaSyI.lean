/- SY, part I: code, loops, functions. Own work. -/
import Derived.Test.YthimgonpkhoodaaSyH
import Derived.Scope
namespace Go.Sy
open Go.RowKit
set_option linter.unusedVariables false
set_option linter.unusedSimpArgs false

def liftQ (w0 : World) (H0 : SH) (K : Exit → List SV → SH → Prop) : Exit → Act → World → Prop :=
  fun e a w => ∃ ts H, a = act ts ∧ HSat w H ∧ Ext w0 H0 w H ∧ K e ts H

/-- A loop, from here on. -/
structure LoopOb (P : Program) (c : Code) (ts : List SV) (H : SH) (K : Exit → List SV → SH → Prop) : Prop where
  run : ∀ w, HSat w H → (Code.loop c).wp P (liftQ w H K) (act ts) w

/-- A part of the code, from here on. -/
structure CodeOb (P : Program) (c : Code) (ts : List SV) (H : SH) (K : Exit → List SV → SH → Prop) : Prop where
  run : ∀ w, HSat w H → c.wp P (liftQ w H K) (act ts) w

def ex (P : Program) (S : Nat → Sched) (c : Code) : List SV → SH → (Exit → List SV → SH → Prop) → Prop :=
  Code.rec (motive := fun _ => List SV → SH → (Exit → List SV → SH → Prop) → Prop)
    (fun ts H K => K .normal ts H)
    (fun id ops draw ts H K => if draw then (if (S id).cut then CodeOb P (.region id ops true) ts H K else opsD P ops (K .normal) (S id).ord [] ts H) else opsK P ops (K .normal) ops.toList ts H)
    (fun _ _ iha ihb ts H K => iha ts H fun e ts H => match e with
      | .normal => ihb ts H K
      | e => K e ts H)
    (fun c _ _ iha ihb ts H K => match ev ts c with
      | .bool t => (t = true → iha ts H K) ∧ (t = false → ihb ts H K)
      | _ => False)
    (fun id _ ih ts H K => ih ts H fun e ts H => match e with
      | .exit id' => if id' = id then K .normal ts H else K (.exit id') ts H
      | e => K e ts H)
    (fun c _ ts H K => LoopOb P c ts H K)
    (fun _ _ _ _ _ _ _ _ _ => False)
    (fun id ts H K => K (.exit id) ts H)
    (fun _ ih ts H K => ih ts H fun e ts H => match e with
      | .goto _ => False
      | e => K e ts H)
    (fun _ ts H K => K .normal ts H)
    (fun _ _ _ _ => False)
    (fun ts H K => K .ret ts H)
    (fun _ _ _ _ => False) c

section
variable (P : Program) (S : Nat → Sched) (ts : List SV) (H : SH) (K : Exit → List SV → SH → Prop)
theorem ex_region (id : Nat) (ops : Array Oper) (draw : Bool) : ex P S (.region id ops draw) ts H K = if draw then (if (S id).cut then CodeOb P (.region id ops true) ts H K else opsD P ops (K .normal) (S id).ord [] ts H) else opsK P ops (K .normal) ops.toList ts H := rfl
theorem ex_seq (a b : Code) : ex P S (.seq a b) ts H K = ex P S a ts H fun e ts H => match e with
    | .normal => ex P S b ts H K
    | e => K e ts H := rfl
theorem ex_cond (c : Operand) (a b : Code) : ex P S (.cond c a b) ts H K = match ev ts c with
    | .bool t => (t = true → ex P S a ts H K) ∧ (t = false → ex P S b ts H K)
    | _ => False := rfl
theorem ex_block (id : Nat) (c : Code) : ex P S (.block id c) ts H K = ex P S c ts H fun e ts H => match e with
    | .exit id' => if id' = id then K .normal ts H else K (.exit id') ts H
    | e => K e ts H := rfl
theorem ex_scope (c : Code) : ex P S (.scope c) ts H K = ex P S c ts H fun e ts H => match e with
    | .goto _ => False
    | e => K e ts H := rfl
end

/-- Every region that draws its order has a walk that fits. -/
def okCode (P : Program) (S : Nat → Sched) : Code → Bool
  | .region id ops draw => !draw || okSched P ops (S id)
  | .seq a b => okCode P S a && okCode P S b
  | .cond _ a b => okCode P S a && okCode P S b
  | .block _ c | .scope c | .loop c => okCode P S c
  | _ => true

theorem liftQ_trans {w0 w1 : World} {H0 H1 : SH} {K K' : Exit → List SV → SH → Prop} (hx : Ext w0 H0 w1 H1) {e : Exit} {a : Act} {w : World} (hK : ∀ ts H, K e ts H → K' e ts H) (h : liftQ w1 H1 K e a w) : liftQ w0 H0 K' e a w := by
  obtain ⟨ts, H, h1, h2, h3, h4⟩ := h
  exact ⟨ts, H, h1, h2, hx.trans h3, hK ts H h4⟩

theorem ex_wp {P : Program} (hm : P.follows .mixedOrders = true) {S : Nat → Sched} {w0 : World} {H0 : SH} : ∀ (c : Code) (ts : List SV) (H : SH) (K : Exit → List SV → SH → Prop) (w : World),
    okCode P S c = true → ex P S c ts H K → HSat w H → Ext w0 H0 w H → c.wp P (liftQ w0 H0 K) (act ts) w
  | .skip, ts, H, K, w, hok, h, hw, hx => wp_skip ⟨ts, H, rfl, hw, hx, h⟩
  | .region id ops draw, ts, H, K, w, hok, h, hw, hx => by
    cases draw with
    | true =>
      rw [ex_region, if_pos rfl] at h
      simp only [okCode, Bool.not_true, Bool.false_or] at hok
      split at h
      · exact wp_mono (h.run w hw) fun e a' w' hq => liftQ_trans hx (fun _ _ h => h) hq
      · exact opsD_wp hm hok (fun ts H w h1 h2 h3 => ⟨ts, H, rfl, h1, h2, h3⟩) hw hx h
    | false =>
      rw [ex_region, if_neg (by simp)] at h
      exact wp_region_list (opsK_wp (fun ts H w h1 h2 h3 => ⟨ts, H, rfl, h1, h2, h3⟩) _ ts H w hw hx h)
  | .seq a b, ts, H, K, w, hok, h, hw, hx => by
    simp only [okCode, Bool.and_eq_true] at hok
    rw [ex_seq] at h
    refine wp_seq (wp_mono (ex_wp hm a ts H _ w hok.1 h hw hx) fun e a' w' hq => ?_)
    obtain ⟨ts', H', rfl, h1, h2, h3⟩ := hq
    cases e with
    | normal => exact ex_wp hm b ts' H' K w' hok.2 h3 h1 h2
    | _ => exact ⟨ts', H', rfl, h1, h2, h3⟩
  | .cond c a b, ts, H, K, w, hok, h, hw, hx => by
    simp only [okCode, Bool.and_eq_true] at hok
    rw [ex_cond] at h
    split at h <;> try exact h.elim
    rename_i t hc
    refine wp_cond_split (t := t) (by rw [← ev_den, hc]; rfl) (fun ht => ?_) (fun ht => ?_)
    · exact ex_wp hm a ts H K w hok.1 (h.1 ht) hw hx
    · exact ex_wp hm b ts H K w hok.2 (h.2 ht) hw hx
  | .block id c, ts, H, K, w, hok, h, hw, hx => by
    rw [ex_block] at h
    refine wp_block (wp_mono (ex_wp hm c ts H _ w hok h hw hx) fun e a' w' hq => ?_)
    obtain ⟨ts', H', rfl, h1, h2, h3⟩ := hq
    cases e with
    | exit id' =>
      simp only [Exit.inBlock] at h3 ⊢
      split
      · rename_i he; rw [if_pos he] at h3; exact ⟨ts', H', rfl, h1, h2, h3⟩
      · rename_i he; rw [if_neg he] at h3; exact ⟨ts', H', rfl, h1, h2, h3⟩
    | _ => exact ⟨ts', H', rfl, h1, h2, h3⟩
  | .loop c, ts, H, K, w, hok, h, hw, hx => wp_mono (h.run w hw) fun e a' w' hq => liftQ_trans hx (fun _ _ h => h) hq
  | .exit id, ts, H, K, w, hok, h, hw, hx => wp_exit ⟨ts, H, rfl, hw, hx, h⟩
  | .ret, ts, H, K, w, hok, h, hw, hx => wp_ret ⟨ts, H, rfl, hw, hx, h⟩
  | .label _, ts, H, K, w, hok, h, hw, hx => wp_label ⟨ts, H, rfl, hw, hx, h⟩
  | .scope c, ts, H, K, w, hok, h, hw, hx => by
    rw [ex_scope] at h
    refine wp_scope_straight (wp_mono (ex_wp hm c ts H _ w hok h hw hx) fun e a' w' hq => ?_)
    obtain ⟨ts', H', rfl, h1, h2, h3⟩ := hq
    cases e with
    | goto l => exact h3.elim
    | _ => exact ⟨ts', H', rfl, h1, h2, h3⟩
  | .rangeFunc .., _, _, _, _, _, h, _, _ => h.elim
  | .goto _, _, _, _, _, _, h, _, _ => h.elim
  | .refuse _, _, _, _, _, _, h, _, _ => h.elim

theorem wp_loop_ghost {P : Program} {c : Code} {Q : Exit → Act → World → Prop} {a : Act} {w : World} (I : Nat → Act → World → Prop) (n0 : Nat) (h₀ : I n0 a w)
    (round : ∀ n a w, I n a w → c.wp P (Exit.then (fun a' w' => ∃ m, m < n ∧ I m a' w') Q) a w) : (Code.loop c).wp P Q a w := by
  intro b k cs
  have key : ∀ n a w, I n a w → ∃ e a' w', Q e a' w' ∧ Arrives P (lone (b.at a (.code c :: .inLoop c :: k)) cs w) b k cs e a' w' := by
    intro n
    induction n using Nat.strongRecOn with
    | _ n ih =>
      intro a w hI
      obtain ⟨e, a₁, w₁, hq, harr⟩ := round n a w hI b (.inLoop c :: k) cs
      cases e with
      | normal =>
        obtain ⟨m, hlt, hI₁⟩ := hq
        obtain ⟨e₂, a₂, w₂, hq₂, harr₂⟩ := ih m hlt a₁ w₁ hI₁
        exact ⟨e₂, a₂, w₂, hq₂, .of_steps (Steps.trans harr (.one step_inLoop)) harr₂⟩
      | exit id => exact ⟨_, a₁, w₁, hq, .pass (x := .inLoop c) rfl (fun _ _ => .inl (by simp)) harr⟩
      | goto l => exact ⟨_, a₁, w₁, hq, .pass (x := .inLoop c) rfl (fun _ _ => .inl (by simp)) harr⟩
      | ret => exact ⟨_, a₁, w₁, hq, .pass (x := .inLoop c) rfl (fun _ _ => .inl (by simp)) harr⟩
      | panic ch => exact ⟨_, a₁, w₁, hq, .pass (x := .inLoop c) rfl (fun _ _ => .inl (by simp)) harr⟩
      | outgrown => exact ⟨_, a₁, w₁, hq, .pass (x := .inLoop c) rfl (fun _ _ => .inl (by simp)) harr⟩
  obtain ⟨e, a', w', hq, harr⟩ := key n0 a w h₀
  exact ⟨e, a', w', hq, .of_steps (.one step_loop) harr⟩

/-- What a round must end in. -/
def roundK (Inv : Nat → List SV → SH → Prop) (n : Nat) (K : Exit → List SV → SH → Prop) : Exit → List SV → SH → Prop := fun e ts H => match e with
  | .normal => ∃ m, m < n ∧ Inv m ts H
  | e => K e ts H

theorem loop_rule {P : Program} (hm : P.follows .mixedOrders = true) {S : Nat → Sched} {c : Code} (hok : okCode P S c = true) {ts : List SV} {H : SH} {K : Exit → List SV → SH → Prop} (Inv : Nat → List SV → SH → Prop) (n0 : Nat)
    (h0 : Inv n0 ts H) (step : ∀ n ts H, Inv n ts H → ex P S c ts H (roundK Inv n K)) : LoopOb P c ts H K := by
  refine ⟨fun w hw => ?_⟩
  refine wp_loop_ghost (fun n a w' => ∃ ts' H', a = act ts' ∧ HSat w' H' ∧ Ext w H w' H' ∧ Inv n ts' H') n0 ⟨ts, H, rfl, hw, Ext.refl _ _, h0⟩ ?_
  intro n a w1 ⟨ts1, H1, ha, h1, h2, h3⟩
  subst ha
  refine wp_mono (ex_wp hm (w0 := w) (H0 := H) c ts1 H1 _ w1 hok (step n ts1 H1 h3) h1 h2) fun e a' w' hq => ?_
  obtain ⟨ts2, H2, rfl, k1, k2, k3⟩ := hq
  cases e with
  | normal =>
    obtain ⟨m, hlt, hI⟩ := k3
    exact ⟨m, hlt, ts2, H2, rfl, k1, k2, hI⟩
  | _ => exact ⟨ts2, H2, rfl, k1, k2, k3⟩

/-! ### another telling of the same memory -/
/-- What the one tells the other tells, too. -/
def Tells (H H' : SH) : Prop := ∀ w, HSat w H → HSat w H' ∧ ∀ k, Wr H' k → Wr H k

theorem Ext.tells {w w' : World} {H0 H H' : SH} (h : Ext w H0 w' H) (t : Tells H H') (hw : HSat w' H) : Ext w H0 w' H' :=
  ⟨h.os, h.tape, h.output, h.size, h.block, fun k hk => h.sub k ((t w' hw).2 k hk)⟩
theorem Ext.told {w w' : World} {H H' H1 : SH} (h : Ext w H' w' H1) (t : Tells H H') (hw : HSat w H) : Ext w H w' H1 :=
  ⟨h.os, h.tape, h.output, h.size, fun k hk hn => h.block k hk (fun hh => hn ((t w hw).2 k hh)), fun k hk => by
    rcases h.sub k hk with h | h
    · exact .inl ((t w hw).2 k h)
    · exact .inr h⟩
theorem LoopOb.tells {P : Program} {c : Code} {ts : List SV} {H H' : SH} {K : Exit → List SV → SH → Prop} (t : Tells H H') (h : LoopOb P c ts H' K) : LoopOb P c ts H K := by
  refine ⟨fun w hw => ?_⟩
  refine wp_mono (h.run w (t w hw).1) fun e a w' hq => ?_
  obtain ⟨ts', H1, h1, h2, h3, h4⟩ := hq
  exact ⟨ts', H1, h1, h2, h3.told t hw, h4⟩

theorem FnOb.tells {P : Program} {f : FuncId} {args : List SV} {H H' : SH} {K : SV → SH → Prop} (t : Tells H H') (h : FnOb P f args H' K) : FnOb P f args H K :=
  ⟨fun w hw => (h.run w (t w hw).1).mono fun v w' ⟨r, H1, h1, h2, h3, h4⟩ => ⟨r, H1, h1, h2, h3.told t hw, h4⟩⟩

/-- What a contract tells, told anew. -/
theorem FnOb.mono {P : Program} {f : FuncId} {args : List SV} {H : SH} {K K' : SV → SH → Prop} (h : FnOb P f args H K') (hk : ∀ r H', K' r H' → K r H') : FnOb P f args H K :=
  ⟨fun w hw => (h.run w hw).mono fun v w' ⟨r, H1, h1, h2, h3, h4⟩ => ⟨r, H1, h1, h2, h3, hk _ _ h4⟩⟩
/-- .. its result, and the memory. -/
theorem FnOb.retell {P : Program} {f : FuncId} {args : List SV} {H : SH} {K K' : SV → SH → Prop} (h : FnOb P f args H K') (hk : ∀ r H', K' r H' → ∃ r' H'', SV.den r' = SV.den r ∧ Tells H' H'' ∧ K r' H'') : FnOb P f args H K :=
  ⟨fun w hw => (h.run w hw).mono fun v w' ⟨r, H1, h1, h2, h3, h4⟩ => by
    obtain ⟨r', H2, hd, t, hk⟩ := hk r H1 h4
    exact ⟨r', H2, by rw [hd]; exact h1, (t w' h2).1, h3.tells t h2, hk⟩⟩
/-- What holds of all memory that is so. -/
theorem FnOb.know {P : Program} {f : FuncId} {args : List SV} {H : SH} {K : SV → SH → Prop} (A : Prop) (hA : ∀ w, HSat w H → A) (h : A → FnOb P f args H K) : FnOb P f args H K :=
  ⟨fun w hw => (h (hA w hw)).run w hw⟩
theorem LoopOb.know {P : Program} {c : Code} {ts : List SV} {H : SH} {K : Exit → List SV → SH → Prop} (A : Prop) (hA : ∀ w, HSat w H → A) (h : A → LoopOb P c ts H K) : LoopOb P c ts H K :=
  ⟨fun w hw => (h (hA w hw)).run w hw⟩

theorem Tells.refl (H : SH) : Tells H H := fun _ h => ⟨h, fun _ h => h⟩
theorem Tells.trans {H H1 H2 : SH} (a : Tells H H1) (b : Tells H1 H2) : Tells H H2 := fun w h => ⟨(b w (a w h).1).1, fun k hk => (a w h).2 k ((b w (a w h).1).2 k hk)⟩

/-! ### functions -/
def resVals (P : Program) (ts : List SV) (H : SH) (rs : List ResultVar) : (List SV → Prop) → Prop :=
  List.rec (motive := fun _ => (List SV → Prop) → Prop) (fun k => k []) (fun r _ ih k => match r with
    | .tmp t => forceV (ts.getD t (.raw undef)) fun v => ih fun vs => k (v :: vs)
    | .cell a t => ldK P t (ts.getD a (.raw undef)) H fun v => ih fun vs => k (v :: vs)) rs

def retK (P : Program) (rs : List ResultVar) (K : SV → SH → Prop) : Exit → List SV → SH → Prop := fun e ts H => match e with
  | .normal | .ret => resVals P ts H rs fun vs => match vs with
    | [v] => K v H
    | vs => K (.tup vs) H
  | _ => False

theorem getD_act (ts : List SV) (t : Nat) : (act ts).tmps.getD t undef = (ts.getD t (.raw undef)).den := by
  have := ev_den ts (.tmp t)
  simp only [ev, Act.eval] at this
  exact this.symm

theorem resVals_run {P : Program} {ts : List SV} {H : SH} {w : World} (hw : HSat w H) : ∀ (rs : List ResultVar) (k : List SV → Prop), resVals P ts H rs k →
    ∃ vs, k vs ∧ (rs.mapM (fun (r : ResultVar) => (match r with
      | .tmp t => pure ((act ts).tmps.getD t undef)
      | .cell a t => do loadVar t (← asAddr ((act ts).tmps.getD a undef)) : Sem Value))).run P w = .ok (denL vs) w
  | [], k, h => ⟨[], h, by simp [denL, Sem.run, pure]⟩
  | .tmp t :: r, k, h => by
    replace h : forceV (ts.getD t (.raw undef)) fun v => resVals P ts H r fun vs => k (v :: vs) := h
    rw [forceV_eq] at h
    obtain ⟨vs, hk, hr⟩ := resVals_run hw r _ h
    refine ⟨_, hk, ?_⟩
    rw [List.mapM_cons]
    refine (bind_run' (a := (ts.getD t (.raw undef)).den) (w' := w) (by simp only [getD_act]; rfl)).trans ?_
    refine (bind_run' hr).trans ?_
    simp [denL, Sem.run, pure]
  | .cell a t :: r, k, h => by
    obtain ⟨v, h, hv⟩ := ldK_run (P := P) hw h
    obtain ⟨vs, hk, hr⟩ := resVals_run hw r _ h
    refine ⟨_, hk, ?_⟩
    rw [List.mapM_cons]
    refine (bind_run' (a := v.den) (w' := w) ?_).trans ?_
    · have h1 := hv w hw
      simp only [getD_act]
      cases hx : (ts.getD a (.raw undef)).den with
      | pointer p =>
        rw [hx] at h1
        cases p with
        | some p => exact h1
        | none => simp [Instr.loadAt, Instr.sureAddr, stuck, Sem.run_bind, Sem.run] at h1
      | _ => rw [hx] at h1; simp [Instr.loadAt, Instr.sureAddr, stuck, Sem.run_bind, Sem.run] at h1
    · refine (bind_run' hr).trans ?_
      simp [denL, Sem.run, pure]

theorem retK_post {P : Program} {fn : Func} {K : SV → SH → Prop} {w0 : World} {H0 : SH} {e : Exit} {a : Act} {w : World} (h : liftQ w0 H0 (retK P fn.results.toList K) e a w) :
    bodyPost P fn (fun en w' => ∃ v, en = .returned v ∧ ∃ r H', v = SV.den r ∧ HSat w' H' ∧ Ext w0 H0 w' H' ∧ K r H') e a w := by
  obtain ⟨ts, H, rfl, hw, hx, h⟩ := h
  have key : (resVals P ts H fn.results.toList fun vs => match vs with
    | [v] => K v H
    | vs => K (.tup vs) H) → ∃ v, (results fn (act ts).tmps).run P w = .ok v w ∧ ∃ v', Ending.returned v = .returned v' ∧ ∃ r H', v' = SV.den r ∧ HSat w H' ∧ Ext w0 H0 w H' ∧ K r H' := by
    intro h
    obtain ⟨vs, hk, hr⟩ := resVals_run (P := P) hw _ _ h
    have hres : (results fn (act ts).tmps).run P w = .ok (if h : (denL vs).toArray.size = 1 then (denL vs).toArray[0] else .tuple (denL vs).toArray) w := by
      unfold results
      refine (bind_run' (a := (denL vs).toArray) (w' := w) ?_).trans rfl
      rw [Array.mapM_eq_mapM_toList, Sem.run_map]
      exact (congrArg (fun r => Result.andThen r fun (a : List Value) w' => Result.ok a.toArray w') hr).trans rfl
    cases vs with
    | nil => exact ⟨_, hres, _, rfl, .tup [], H, by simp [denL, SV.den], hw, hx, hk⟩
    | cons v vs =>
      cases vs with
      | nil => exact ⟨_, hres, _, rfl, v, H, by simp [denL], hw, hx, hk⟩
      | cons u vs => exact ⟨_, hres, _, rfl, .tup (v :: u :: vs), H, by simp [denL, SV.den], hw, hx, hk⟩
  cases e with
  | normal => exact ⟨rfl, key h⟩
  | ret => exact ⟨rfl, key h⟩
  | _ => exact h.elim

theorem denL_args (args : List SV) (n : Nat) : (denL args).toArray ++ Array.replicate (n - (denL args).toArray.size) undef = (denL (args ++ List.replicate (n - args.length) (.raw undef))).toArray := by
  apply Array.ext'
  simp [denL_eq, SV.den]

/-- A function's call, by its code. -/
theorem fnOb_of_ex {P : Program} (hm : P.follows .mixedOrders = true) {S : Nat → Sched} {f : FuncId} {fn : Func} {c : Code} (hf : P.funcs[f]? = some fn) (hb : fn.body = some c) (hname : fn.name ≠ "runtime.NumGoroutine")
    (hok : okCode P S c = true) {args : List SV} {H : SH} {K : SV → SH → Prop} (h : forceL (args ++ List.replicate (fn.ntmps - args.length) (.raw undef)) fun ts => ex P S c ts H (retK P fn.results.toList K)) : FnOb P f args H K := by
  rw [forceL_eq] at h
  refine ⟨fun w hw => .inr ⟨?_, ?_⟩⟩
  · have hn : fn.body.isNone = false := by simp [hb]
    have h3' : (fn.name == "runtime.NumGoroutine") = false := by simpa using hname
    unfold callFunc
    refine (bind_run' (a := P) (w' := w) rfl).trans ?_
    simp only [hf, h3', hn, Bool.false_eq_true, if_false]
    rfl
  refine calls_of_wp hf hb ?_
  rw [denL_args]
  exact wp_mono (ex_wp hm (w0 := w) (H0 := H) c _ H _ w hok h hw (Ext.refl _ _)) fun e a w' hq => retK_post hq
end Go.Sy
