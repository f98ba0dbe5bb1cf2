/- SY, part X: what is drawn from the world at a function's start: a slice's room, told as cells of any kind. Own work. -/
import Derived.Test.YthimgonpkhoodaaSyW
namespace Go.Sy
set_option linter.unusedVariables false
set_option linter.unusedSimpArgs false
/-- The memory told anew; a thing may be drawn from the world for it. -/
theorem FnOb.startX {P : Program} {f : FuncId} {args : List SV} {H : SH} {X : Type} {H' : X → SH} {K : SV → SH → Prop} (t : ∀ w, HSat w H → ∃ x, HSat w (H' x) ∧ ∀ k, Wr (H' x) k → Wr H k) (h : ∀ x, FnOb P f args (H' x) K) : FnOb P f args H K :=
  ⟨fun w hw => by
    obtain ⟨x, h1, h2⟩ := t w hw
    exact ((h x).run w h1).mono fun v w' ⟨r, H2, he, hs, hx, hk⟩ =>
      ⟨r, H2, he, hs, ⟨hx.os, hx.tape, hx.output, hx.size, fun k hk1 hn => hx.block k hk1 (fun hwr => hn (h2 k hwr)), fun k hk1 => (hx.sub k hk1).imp_left (h2 k)⟩, hk⟩⟩
theorem HSat.one {w : World} {H : SH} (hw : HSat w H) (i : Nat) {p q : Bs × Blk} (hi : H[i]? = some p) (hp : EntryAt w q ∧ (∀ k, Solid q k → Solid p k) ∧ (∀ k, Own q k → Own p k)) : HSat w (H.set i q) ∧ ∀ k, Wr (H.set i q) k → Wr H k := by
  have hget : ∀ (n : Nat) (x : Bs × Blk), (H.set i q)[n]? = some x → (n = i ∧ x = q) ∨ (n ≠ i ∧ H[n]? = some x) := by
    intro n x hx
    rw [List.getElem?_set] at hx
    split at hx
    · rename_i h
      split at hx
      · exact .inl ⟨h.symm, (Option.some.inj hx).symm⟩
      · cases hx
    · rename_i h; exact .inr ⟨fun e => h e.symm, hx⟩
  have key : ∀ n x, n ≠ i → H[n]? = some x → ApartE q x := fun n x hn hx k => by
    have := hw.sep i n p x (fun e => hn e.symm) hi hx k
    exact ⟨fun ⟨a, b⟩ => this.1 ⟨hp.2.1 k a, b⟩, fun ⟨a, b⟩ => this.2 ⟨hp.2.2 k a, b⟩⟩
  refine ⟨⟨fun n m x y hnm hn hm => ?_, fun x hx => ?_⟩, fun k ⟨x, hx, ho⟩ => ?_⟩
  · rcases hget n x hn with ⟨n1, rfl⟩ | ⟨n1, n2⟩
    · rcases hget m y hm with ⟨m1, rfl⟩ | ⟨m1, m2⟩
      · exact absurd (n1.trans m1.symm) hnm
      · exact key m y m1 m2
    · rcases hget m y hm with ⟨m1, rfl⟩ | ⟨m1, m2⟩
      · exact (key n x n1 n2).symm
      · exact hw.sep n m x y hnm n2 m2
  · obtain ⟨n, hn⟩ := List.mem_iff_getElem?.1 hx
    rcases hget n x hn with ⟨n1, rfl⟩ | ⟨n1, n2⟩
    · exact hp.1
    · exact hw.at_ x (List.mem_of_getElem? n2)
  · obtain ⟨n, hn⟩ := List.mem_iff_getElem?.1 hx
    rcases hget n x hn with ⟨n1, rfl⟩ | ⟨n1, n2⟩
    · exact ⟨p, List.mem_of_getElem? hi, hp.2.2 k ho⟩
    · exact ⟨x, List.mem_of_getElem? n2, ho⟩
/-- Any cell. -/
abbrev encV (v : SV) : List SV := [v]
theorem flat_V (l : List SV) : l.flatMap encV = l := by
  induction l with
  | nil => rfl
  | cons a l ih => rw [List.flatMap_cons, ih]; rfl
/-- A slice of single cells, its room too. -/
theorem vec_whole {w : World} {b : Bs} {z : Bool} {c : Nat} {α : Type} {enc : α → List SV} {l : List α} (h : EntryAt w (b, .vec z c enc 1 l)) :
    ∃ l' : List SV, l'.length = c ∧ EntryAt w (b, .vec z c encV 1 l') ∧ (∀ k, Solid ((b, .vec z c encV 1 l') : Bs × Blk) k → Solid ((b, .vec z c enc 1 l) : Bs × Blk) k) ∧ (∀ k, Own ((b, .vec z c encV 1 l') : Bs × Blk) k → Own ((b, .vec z c enc 1 l) : Bs × Blk) k) := by
  have hb : BlkAt w (b, .vec z c enc 1 l) := h
  obtain ⟨⟨hok, hc⟩, hh⟩ := hb
  have hfl : (l.flatMap enc).length = l.length := by rw [flatMap_length enc 1 l hok, Nat.mul_one]
  have hsol : ∀ (l' : List SV) k, Solid ((b, .vec z c encV 1 l') : Bs × Blk) k → Solid ((b, .vec z c enc 1 l) : Bs × Blk) k := fun l' k hk => by
    refine ⟨?_, hk.2⟩
    rcases hk.1 with h | h
    · exact .inl h
    · cases h.1
  by_cases hz : z = true ∧ c = 0
  · refine ⟨[], by rw [hz.2]; rfl, ⟨⟨by simp, by simp; omega⟩, fun hne => absurd hz hne⟩, hsol _, fun k hk => hk⟩
  · obtain ⟨pre, post, h1, h2, h3⟩ := hh hz
    rw [hfl, Nat.mul_one] at h2
    refine ⟨l.flatMap enc ++ post.take (c - l.length), ?_, ⟨⟨fun _ _ => rfl, ?_⟩, fun _ => ⟨pre, post.drop (c - l.length), h1, ?_, ?_⟩⟩, hsol _, fun k hk => hk⟩
    · rw [List.length_append, hfl, List.length_take]; omega
    · rw [List.length_append, hfl, List.length_take]; omega
    · rw [flat_V, List.length_append, hfl, List.length_take, List.length_drop]; omega
    · rw [flat_V]
      have e : pre ++ (l.flatMap enc ++ post.take (c - l.length)) ++ post.drop (c - l.length) = pre ++ l.flatMap enc ++ post := by
        simp only [List.append_assoc, List.take_append_drop]
      rw [e]; exact h3
theorem FnOb.whole {P : Program} {f : FuncId} {args : List SV} {H : SH} {K : SV → SH → Prop} (i : Nat) {b : Bs} {z : Bool} {c : Nat} {α : Type} {enc : α → List SV} {l : List α} (hi : H[i]? = some (b, .vec z c enc 1 l))
    (h : ∀ l' : List SV, l'.length = c → FnOb P f args (H.set i (b, .vec z c encV 1 l')) K) : FnOb P f args H K :=
  FnOb.startX (X := {l' : List SV // l'.length = c}) (H' := fun x => H.set i (b, .vec z c encV 1 x.1)) (fun w hw => by
    obtain ⟨l', h1, h2, h3, h4⟩ := vec_whole (hw.at_ _ (List.mem_of_getElem? hi))
    exact ⟨⟨l', h1⟩, hw.one i hi ⟨h2, h3, h4⟩⟩) fun x => h x.1 x.2
/-- cap(s) of a slice. -/
theorem cap_ob {P : Program} {o : Oper} {e : Operand → SV} {H : SH} {K : SV → SH → Prop} {t et : TypeId} {ats : Array TypeId} {m : Operand} {i : Nat} {z : Bool} {b : Bs} {wd j l c : Nat} (ho : o.op = .call ⟨.builtin .cap, #[m], ats⟩)
    (ht : ats[0]? = some t) (hu : P.underlying t = some (.slice et)) (hm : e m = .sl i z b wd j l c) (h : K (.int .i64 c) H) : OpOb P o e H K := by
  refine ⟨fun w hw => ?_⟩
  refine ⟨_, H, w, .inl ?_, hw, Ext.refl _ _, h⟩
  have hr : (Builtin.cap_ ats o.type #[(e m).den]).run P w = .ok (.int .i64 c) w := by
    rw [hm]
    simp only [SV.den]
    cases hz : nilB z l c with
    | false => simp [Builtin.cap_, ht, run_underlying hu, Result.andThen, goInt]
    | true =>
      obtain ⟨rfl, rfl, rfl⟩ := nilB_true hz
      simp [Builtin.cap_, ht, run_underlying hu, Result.andThen, goInt]
  have h1 : execOp (fun x => (e x).den) o = (do pure (.value (← Builtin.cap_ ats o.type #[(e m).den])) : Sem Next) := by
    have hargs : (#[m] : Array Operand).map (fun x => (e x).den) = #[(e m).den] := by simp
    rw [← hargs]
    simp only [execOp, ho]
    rfl
  rw [h1]
  exact (bind_run' hr).trans rfl
end Go.Sy
