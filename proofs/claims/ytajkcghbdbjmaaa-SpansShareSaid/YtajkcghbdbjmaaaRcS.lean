/- Layers 6 and 7: the conversion of bytes to a string. -/
import Derived.Test.YtajkcghbdbjmaaaRcG
import Derived.Laws.IdiomStrings
namespace Go.Proofs.Ytajkcghbdbjmaaa
open Go.RowKit
namespace Rc

def strOf (bs : List Nat) : ByteArray := ⟨(bs.map UInt8.ofNat).toArray⟩
theorem conv_str (bs : List Nat) (A : Option Addr) (n c : Nat) (w : World) (hn : bs.length = n) (hr : Mem.Rd w A (octets bs)) (hs : Small bs) (hA : A = none → n = 0) :
    (convert 22 9 (.slice A n c)).run Try.prog w = .ok (.string (strOf bs)) w := by
  subst hn
  cases A with
  | none =>
    have : bs = [] := List.eq_nil_of_length_eq_zero (hA rfl)
    subst this
    rw [run_convert_bytes_string w _ _ _ none _ c Try.underlying22 Try.underlying5 Try.underlying9]
    rfl
  | some a =>
    have h := run_convert_bytes_back (P := Try.prog) w 22 9 5 a c (bs.map UInt8.ofNat) Try.underlying22 Try.underlying5 Try.underlying9 (fun j hj => by
      rw [List.length_map] at hj
      obtain ⟨b, off, e, _, hc⟩ := hr (by rw [octets_len]; omega)
      injection e with e
      subst e
      rw [Mem.add_none, hc j (by rw [octets_len]; exact hj), octets_at hj]
      have hb := hs.at j
      have e1 : byt bs j = bs[j] := by
        unfold byt
        rw [List.getD_eq_getElem?_getD, List.getElem?_eq_getElem hj]
        rfl
      rw [e1] at hb ⊢
      rw [List.getElem_map]
      congr 3
      simp
      omega)
    rw [List.length_map] at h
    exact h
end Rc
end Go.Proofs.Ytajkcghbdbjmaaa
