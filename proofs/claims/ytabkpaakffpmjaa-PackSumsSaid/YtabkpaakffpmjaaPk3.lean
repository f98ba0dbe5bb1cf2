/- Frames, plainly. Own work. -/
import Derived.Test.YtabkpaakffpmjaaPk2
namespace Go.Pk
set_option linter.unusedVariables false
set_option linter.unusedSimpArgs false

def four (v : Nat) : List UInt8 := [UInt8.ofNat (v / 2 ^ 24), UInt8.ofNat (v / 2 ^ 16), UInt8.ofNat (v / 2 ^ 8), UInt8.ofNat v]
def at4 (l : List UInt8) : Nat := (l.getD 0 0).toNat * 16777216 + (l.getD 1 0).toNat * 65536 + (l.getD 2 0).toNat * 256 + (l.getD 3 0).toNat
theorem four_len (v : Nat) : (four v).length = 4 := rfl
theorem at4_lt (l : List UInt8) : at4 l < 4294967296 := by
  unfold at4
  have h0 := (l.getD 0 0).toNat_lt
  have h1 := (l.getD 1 0).toNat_lt
  have h2 := (l.getD 2 0).toNat_lt
  have h3 := (l.getD 3 0).toNat_lt
  omega
theorem at4_four {v : Nat} (h : v < 4294967296) (r : List UInt8) : at4 (four v ++ r) = v := by
  simp only [four, at4, List.cons_append, List.nil_append, List.getD_cons_zero, List.getD_cons_succ, UInt8.toNat_ofNat']
  omega
def head (s : List UInt8) : List UInt8 := 87 :: 70 :: four s.length
def framed (s : List UInt8) : Nat := crcSum (head s ++ s)
def frame (s : List UInt8) : List UInt8 := head s ++ four (framed s) ++ s
def frameR (s : List UInt8) : List UInt8 × Int := if 65536 < s.length then ([], 2) else (frame s, 0)
/-- What is read at the start of r; a: where that is. -/
def openF (r : List UInt8) (a : Nat) : List UInt8 × Int × Int × Int :=
  if r.take (min r.length 2) ≠ [87, 70].take (min r.length 2) then ([], 0, a, 3)
  else if r.length < 10 then ([], 0, a, 11)
  else if 65536 < at4 (r.drop 2) then ([], 0, a, 2)
  else if (r.drop 10).length < at4 (r.drop 2) then ([], 0, a, 11)
  else if crcSum (r.take 6 ++ (r.drop 10).take (at4 (r.drop 2))) ≠ at4 (r.drop 6) then ([], 0, a, 10)
  else ((r.drop 10).take (at4 (r.drop 2)), ((a + 10 + at4 (r.drop 2) : Nat) : Int), 0, 0)
def unframeR (s : List UInt8) (a : Int) : List UInt8 × Int × Int × Int :=
  if a < 0 ∨ (s.length : Int) < a then ([], 0, 0, 1) else openF (s.drop a.toNat) a.toNat
end Go.Pk
