/- Keys: a look-up with one result; plain counting. Own work. -/
import Derived.Test.YtgapmdkiijpmpaaDoorS8q
namespace Go.Sy
open Go Go.MapKept
theorem lookup1_ob {P : Program} {o : Oper} {e : Operand → SV} {H : SH} {K : SV → SH → Prop} {κ ν : Type} [DecidableEq κ] {ek : κ → SV} {ev : ν → SV} {L : List (κ × ν)} {t kt et : TypeId} {m x : Operand} {d : TypeDesc} {z : SV} {i : Nat} {b : Bs} {k : κ} (ho : o.op = .lookup t m x false)
    (hu : P.underlying t = some (.map kt et)) (hd : P.underlying kt = some d) (hz : zrOf P et = some z) (hk : KeyOk d ek) (hm : e m = .mp i b) (hx : e x = ek k) (hi : H[i]? = some (b, mapB ek ev L))
    (h1 : ∀ v, getM L k = some v → K (ev v) H) (h2 : getM L k = none → K z H) : OpOb P o e H K := by
  refine ⟨fun w hw => ?_⟩
  obtain ⟨_, es, clock, hb, he⟩ := hw.mapAt hi
  rcases findNow_L hk k es.toList L 0 he with ⟨hf, hn⟩ | ⟨j, en, v, hf, hj, hkey, hn, hL⟩
  · refine ⟨_, H, w, .inl ?_, hw, Ext.refl _ _, h2 (idxM_none hn).1⟩
    have hr : (Instr.lookup t (e m).den (e x).den false).run P w = .ok z.den w := by
      rw [hm, hx]
      simp [Instr.lookup, SV.den, run_underlying hu, MapKept.run_getObj_map hb, run_checkKey hd (hk.key k), run_findKey hd hf, run_zero hz, Result.andThen]
    simp only [execOp, ho]
    refine (bind_run' hr).trans ?_
    simp [Sem.run, pure]
  · obtain ⟨v', hL', hg, _⟩ := idxM_some hn
    rw [hL] at hL'
    cases hL'
    refine ⟨_, H, w, .inl ?_, hw, Ext.refl _ _, h1 _ hg⟩
    have hr : (Instr.lookup t (e m).den (e x).den false).run P w = .ok (ev v).den w := by
      rw [hm, hx]
      simp [Instr.lookup, SV.den, run_underlying hu, MapKept.run_getObj_map hb, run_checkKey hd (hk.key k), run_findKey hd hf, Result.andThen]
    simp only [execOp, ho]
    refine (bind_run' hr).trans ?_
    simp [Sem.run, pure]
end Go.Sy
namespace Go.Proofs.YtgapmdkiijpmpaaDoor
open Go Go.Sy Go.Sp
set_option maxRecDepth 100000
set_option linter.unusedVariables false
set_option linter.unusedSimpArgs false
theorem u56 : Tryd.prog.underlying 56 = some (.map 9 4) := by kernel_rfl
theorem u9 : Tryd.prog.underlying 9 = some .string := by kernel_rfl
theorem zr4 : zrOf Tryd.prog 4 = some (.bool false) := by kernel_rfl
abbrev ekT (k : List UInt8) : SV := .str k
abbrev evB' (b : Bool) : SV := .bool b
def manyOf (ks : List (List UInt8)) (F : List Evt) : Nat := (ks.map fun k => (keyed k F).length).sum
theorem manyOf_nil (ks : List (List UInt8)) : manyOf ks [] = 0 := by
  unfold manyOf
  induction ks with
  | nil => rfl
  | cons k ks ih => simp only [List.map_cons, List.sum_cons, ih]; rfl
theorem manyOf_cons {ks : List (List UInt8)} (hn : ks.Nodup) (x : Evt) (F : List Evt) : manyOf ks (x :: F) = manyOf ks F + if x.key ∈ ks then 1 else 0 := by
  unfold manyOf
  induction ks with
  | nil => simp
  | cons k ks ih =>
    obtain ⟨h1, h2⟩ := List.nodup_cons.1 hn
    have ih := ih h2
    simp only [List.map_cons, List.sum_cons, List.mem_cons]
    have hk : (keyed k (x :: F)).length = (keyed k F).length + if x.key = k then 1 else 0 := by
      unfold keyed
      rw [List.filter_cons]
      by_cases h : x.key = k
      · simp [h]
      · simp [h]
    rw [hk, ih]
    by_cases h : x.key = k
    · subst h
      rw [if_pos rfl, if_neg h1, if_pos (.inl rfl)]; omega
    · rw [if_neg h]
      by_cases h' : x.key ∈ ks
      · rw [if_pos h', if_pos (.inr h')]; omega
      · rw [if_neg h', if_neg (fun hh => hh.elim h h')]; omega
theorem manyOf_all {ks : List (List UInt8)} (hn : ks.Nodup) : ∀ {F : List Evt}, (∀ x ∈ F, x.key ∈ ks) → manyOf ks F = F.length
  | [], _ => manyOf_nil ks
  | x :: F, h => by
    rw [manyOf_cons hn, manyOf_all hn fun y hy => h y (by simp [hy]), if_pos (h x (by simp))]; rfl
/-- Of each partition the first ones. -/
def firsts (A : List (List Evt)) (C : List Nat) : List (List Evt) := A.zipWith (fun l c => l.take c) C
theorem keyed_flat (k : List UInt8) : ∀ (B : List (List Evt)) (p : Nat), (∀ (q : Nat) (l : List Evt), B[q]? = some l → q ≠ p → keyed k l = []) → keyed k B.flatten = keyed k (B.getD p [])
  | [], p, h => by simp [keyed]
  | l :: B, 0, h => by
    have hz : keyed k B.flatten = [] := by
      have : ∀ (B : List (List Evt)), (∀ l ∈ B, keyed k l = []) → keyed k B.flatten = [] := by
        intro B
        induction B with
        | nil => intro _; rfl
        | cons m B ih =>
          intro hh
          have h1 := hh m (by simp)
          have h2 := ih fun l hl => hh l (by simp [hl])
          unfold keyed at h1 h2 ⊢
          rw [List.flatten_cons, List.filter_append, h1, h2]; rfl
      refine this B fun m hm => ?_
      obtain ⟨q, hq⟩ := List.mem_iff_getElem?.1 hm
      exact h (q + 1) m (by simpa using hq) (by omega)
    unfold keyed at hz ⊢
    rw [List.flatten_cons, List.filter_append, hz]
    simp
  | l :: B, p + 1, h => by
    have h0 := h 0 l rfl (by omega)
    have ih := keyed_flat k B p fun q m hq hne => h (q + 1) m (by simpa using hq) (by omega)
    unfold keyed at h0 ih ⊢
    rw [List.flatten_cons, List.filter_append, h0, ih]
    simp
theorem firsts_get {A : List (List Evt)} {C : List Nat} (h : C.length = A.length) {p : Nat} {l : List Evt} (hl : A[p]? = some l) : (firsts A C)[p]? = some (l.take (C.getD p 0)) := by
  have hp := (List.getElem?_eq_some_iff.1 hl).1
  unfold firsts
  rw [List.getElem?_zipWith, hl, List.getD_eq_getElem?_getD, List.getElem?_eq_getElem (by omega)]
  rfl
theorem firsts_len : ∀ {A : List (List Evt)} {C : List Nat}, C.length = A.length → (∀ (p : Nat) (l : List Evt), A[p]? = some l → C.getD p 0 ≤ l.length) → (firsts A C).flatten.length = C.sum
  | [], [], _, _ => rfl
  | l :: A, c :: C, h, hc => by
    have h0 := hc 0 l rfl
    have ih := firsts_len (A := A) (C := C) (by simpa using h) fun p m hm => by simpa using hc (p + 1) m (by simpa using hm)
    simp only [List.getD_cons_zero] at h0
    unfold firsts at ih ⊢
    rw [List.zipWith_cons_cons, List.flatten_cons, List.length_append, List.length_take, ih, List.sum_cons]
    omega
  | [], c :: C, h, _ => by simp at h
  | l :: A, [], h, _ => by simp at h
theorem firsts_getD {A : List (List Evt)} {C : List Nat} (h : C.length = A.length) {p : Nat} : (firsts A C).getD p [] = (A.getD p []).take (C.getD p 0) := by
  cases hl : A[p]? with
  | none =>
    have h1 : A.getD p [] = [] := by rw [List.getD_eq_getElem?_getD, hl]; rfl
    have h2 : (firsts A C)[p]? = none := by
      refine List.getElem?_eq_none ?_
      unfold firsts
      rw [List.length_zipWith]
      have := List.getElem?_eq_none_iff.1 hl
      omega
    rw [h1, List.take_nil, List.getD_eq_getElem?_getD, h2]; rfl
  | some l =>
    have h1 : A.getD p [] = l := by rw [List.getD_eq_getElem?_getD, hl]; rfl
    rw [h1, List.getD_eq_getElem?_getD (l := firsts A C), firsts_get h hl]; rfl
/-- All keys' events below offsets are all events below them. -/
theorem keys_all {A : List (List Evt)} {C : List Nat} {ks : List (List UInt8)} (hn : ks.Nodup) (hC : C.length = A.length) (hc : ∀ (p : Nat) (l : List Evt), A[p]? = some l → C.getD p 0 ≤ l.length)
    (hk : ∀ (p : Nat) (l : List Evt), A[p]? = some l → ∀ x ∈ l, x.key ∈ ks ∧ partOf x.key A.length = p) :
    (ks.map fun k => (keyed k ((A.getD (partOf k A.length) []).take (C.getD (partOf k A.length) 0))).length).sum = C.sum := by
  rw [← firsts_len hC hc, ← manyOf_all hn (F := (firsts A C).flatten)]
  · unfold manyOf
    congr 1
    apply List.map_congr_left
    intro k _
    congr 1
    rw [keyed_flat k (firsts A C) (partOf k A.length)]
    · rw [firsts_getD hC]
    · intro q l hq hne
      have hqa : q < A.length := by
        have := (List.getElem?_eq_some_iff.1 hq).1
        unfold firsts at this
        rw [List.length_zipWith] at this
        omega
      obtain ⟨m, hm⟩ : ∃ m, A[q]? = some m := ⟨_, List.getElem?_eq_getElem hqa⟩
      rw [firsts_get hC hm] at hq
      cases hq
      unfold keyed
      rw [List.filter_eq_nil_iff]
      intro x hx hxk
      have := (hk q m hm x (List.mem_of_mem_take hx)).2
      rw [of_decide_eq_true hxk] at this
      exact hne this.symm
  · intro x hx
    obtain ⟨l, hl, hxl⟩ := List.mem_flatten.1 hx
    obtain ⟨q, hq⟩ := List.mem_iff_getElem?.1 hl
    have hqa : q < A.length := by
      have := (List.getElem?_eq_some_iff.1 hq).1
      unfold firsts at this
      rw [List.length_zipWith] at this
      omega
    obtain ⟨m, hm⟩ : ∃ m, A[q]? = some m := ⟨_, List.getElem?_eq_getElem hqa⟩
    rw [firsts_get hC hm] at hq
    cases hq
    exact (hk q m hm x (List.mem_of_mem_take hxl)).1
/-- What is known of the keys that were seen. -/
structure InvK (n : Nat) (A : List (List Evt)) (ks : List (List UInt8)) (M : List (List UInt8 × Bool)) : Prop where
  nd : ks.Nodup
  mp : ∀ k, getM M k = if k ∈ ks then some true else none
  ev : ∀ (p : Nat) (l : List Evt), A[p]? = some l → ∀ x ∈ l, x.key ∈ ks ∧ partOf x.key n = p
  bd : ∀ k ∈ ks, k.length ≤ 140737488351232
theorem getM_put {M : List (List UInt8 × Bool)} {k j : List UInt8} {v : Bool} : getM (putM M k v) j = if j = k then some v else getM M j := by
  induction M with
  | nil => by_cases h : k = j <;> simp [putM, getM, h, eq_comm]
  | cons a M ih =>
    obtain ⟨a1, a2⟩ := a
    by_cases h1 : a1 = k
    · subst h1
      by_cases h2 : a1 = j
      · subst h2; simp [putM, getM]
      · have h3 : ¬ j = a1 := fun e => h2 e.symm
        simp [putM, getM, h2, h3]
    · by_cases h2 : a1 = j
      · subst h2; simp [putM, getM, h1]
      · simp [putM, getM, h1, h2, ih]
theorem InvK.put {n : Nat} {A : List (List Evt)} {ks : List (List UInt8)} {M : List (List UInt8 × Bool)} (h : InvK n A ks M) (hn : A.length = n) {x : Evt} (hx : okE x) {k : Nat} {l : List Evt} (hk : k = partOf x.key A.length) (hl : A[k]? = some l) :
    (x.key ∈ ks → InvK n (A.set k (l ++ [x])) ks (putM M x.key true)) ∧ (x.key ∉ ks → InvK n (A.set k (l ++ [x])) (ks ++ [x.key]) (putM M x.key true)) := by
  have hset : ∀ (p : Nat) (m : List Evt), (A.set k (l ++ [x]))[p]? = some m → ∀ y ∈ m, (∃ m', A[p]? = some m' ∧ y ∈ m') ∨ (y = x ∧ p = k) := by
    intro p m hm y hy
    rw [List.getElem?_set] at hm
    split at hm
    · rename_i e
      subst e
      split at hm
      · cases hm
        rcases List.mem_append.1 hy with hy | hy
        · exact .inl ⟨l, hl, hy⟩
        · exact .inr ⟨List.mem_singleton.1 hy, rfl⟩
      · cases hm
    · exact .inl ⟨m, hm, hy⟩
  constructor
  · intro hin
    refine ⟨h.nd, fun j => ?_, fun p m hm y hy => ?_, h.bd⟩
    · rw [getM_put, h.mp j]
      by_cases e : j = x.key
      · subst e; rw [if_pos rfl, if_pos hin]
      · rw [if_neg e]
    · rcases hset p m hm y hy with ⟨m', h1, h2⟩ | ⟨rfl, rfl⟩
      · exact h.ev p m' h1 y h2
      · exact ⟨hin, by rw [← hn]; exact hk.symm⟩
  · intro hin
    refine ⟨?_, fun j => ?_, fun p m hm y hy => ?_, fun j hj => ?_⟩
    · rw [List.nodup_append]
      exact ⟨h.nd, by simp, fun a ha b hb => by rw [List.mem_singleton.1 hb]; rintro rfl; exact hin ha⟩
    · rw [getM_put, h.mp j]
      by_cases e : j = x.key
      · subst e; rw [if_pos rfl, if_pos (by simp)]
      · rw [if_neg e]
        by_cases e2 : j ∈ ks
        · rw [if_pos e2, if_pos (by simp [e2])]
        · rw [if_neg e2, if_neg (by simp [e2, e])]
    · rcases hset p m hm y hy with ⟨m', h1, h2⟩ | ⟨rfl, rfl⟩
      · obtain ⟨h3, h4⟩ := h.ev p m' h1 y h2
        exact ⟨by simp [h3], h4⟩
      · exact ⟨by simp, by rw [← hn]; exact hk.symm⟩
    · rcases List.mem_append.1 hj with hj | hj
      · exact h.bd j hj
      · rw [List.mem_singleton.1 hj]; exact hx.1
end Go.Proofs.YtgapmdkiijpmpaaDoor
