/- SX, part R: what a row's arguments are, in symbolic memory. Own work. -/
import Derived.Test.YtbmdmeljflmcgaaSxL
import Derived.ProofKit
import Derived.OpenShut
import Derived.SliceStrings
import Derived.SizedLaws
namespace Go.Sx
open Go.RowKit Go.ChangeShapes Go.WideShapes Go.ChangeAt
set_option linter.unusedVariables false
set_option linter.unusedSimpArgs false

theorem okWide_sl {P : Program} {w : World} {r : Reach} {base : Nat} {t e : TypeId} {v : Value} (ht : P.underlying t = some (.slice e)) (h : Value.okWide P w r base t v) :
    v = .slice none 0 0 ∨ ∃ (b off len cap : Nat), v = .slice (some ⟨b, off, none⟩) len cap ∧ len ≤ cap := by
  simp only [Value.okWide, ht, Cell.okWide] at h
  cases v with
  | slice a len cap =>
    cases a with
    | none =>
      cases len <;> cases cap <;> simp_all [Cell.ok]
    | some a =>
      right
      obtain ⟨b, off, spot⟩ := a
      simp only [Cell.ok, ht, World.has] at h
      obtain ⟨h1, _, _, h2, _⟩ := h
      exact ⟨b, off, len, cap, by subst h2; rfl, h1⟩
  | _ => simp_all [Cell.ok]

theorem bytes_eta (s : ByteArray) : (⟨s.data.toList.toArray⟩ : ByteArray) = s := by
  cases s; simp

theorem den_str (s : ByteArray) : (SV.str s.data.toList).den = .string s := by
  simp only [SV.den, bytes_eta]

/-- Windows alone hold. -/
theorem hsat_nil (w : World) : HSat w [] := ⟨fun i j p q hi => by simp at hi, by simp⟩
theorem hsat_wins {w : World} {H : SH} (h : ∀ p ∈ H, p.2.wr = false ∧ BlkAt w p) : HSat w H := by
  refine ⟨fun i j p q hi hj hs hq hn => ?_, fun p hp => (h p hp).2⟩
  have := (h q (List.mem_of_getElem? hj)).1
  rw [hq] at this; cases this
theorem nowr_wins {H : SH} (h : ∀ p ∈ H, p.2.wr = false) (k : Nat) : ¬ Wr H k := fun ⟨p, hp, hw, _⟩ => by
  have := h p hp
  rw [hw] at this; cases this

def strsOf (ss : List ByteArray) (len : Nat) : List (List UInt8) := (ss.take len).map (·.data.toList)

theorem blk_strs {w : World} {b off len : Nat} {ss : List ByteArray} (hcell : ∀ i, i < ss.length → w.cell? (Addr.add ⟨b, off, none⟩ i) = some (.string (ss.getD i ByteArray.empty))) :
    BlkAt w (⟨b, off⟩, .win encStr 1 (strsOf ss len)) := by
  refine ⟨fun x _ => rfl, fun n v hv => ?_, fun h => by cases h⟩
  have e : ∀ l : List (List UInt8), l.flatMap encStr = l.map SV.str := fun l => by
    induction l with
    | nil => rfl
    | cons a l ih => rw [List.flatMap_cons, ih]; rfl
  simp only [Blk.cells, e, strsOf, List.getElem?_map] at hv
  cases hs : (ss.take len)[n]? with
  | none => rw [hs] at hv; cases hv
  | some s =>
    rw [hs] at hv
    have hv : SV.str s.data.toList = v := Option.some.inj hv
    subst hv
    rw [den_str]
    rw [List.getElem?_take] at hs
    split at hs
    · have hn := (List.getElem?_eq_some_iff.1 hs).1
      have := hcell n hn
      rw [addr_add] at this
      rw [this, List.getD_eq_getElem?_getD, hs]; rfl
    · cases hs

theorem blk_empty {α : Type} (w : World) (b : Bs) (enc : α → List SV) {n : Nat} : BlkAt w (b, .win enc n []) :=
  ⟨fun x hx => by simp at hx, fun n v hv => by simp [Blk.cells] at hv, fun h => by cases h⟩

/-- What a law that returns true leaves behind. -/
theorem law_run {P : Program} {f : FuncId} {args : List SV} {H : SH} {vals : Array Value} (h : FnOb P f args H fun r _ => r = .bool true) {w : World} (hw : HSat w H) (hn : ∀ k, ¬ Wr H k) (hv : vals = (denL args).toArray) :
    Calls P f vals w fun e w' => e = .returned (.bool true) ∧ Below w.heap.size w w' := by
  subst hv
  refine (h.run w hw).mono fun e w' ⟨r, H', he, _, hx, hr⟩ => ?_
  subst hr
  exact ⟨he, hx.below hn⟩
end Go.Sx
