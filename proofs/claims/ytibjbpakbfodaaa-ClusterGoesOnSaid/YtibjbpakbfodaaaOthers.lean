/- (*peer).others: whatever is done to each, in order. -/
import Derived.Test.YtibjbpakbfodaaaBegin
namespace Go.Proofs.Ytibjbpakbfodaaa
open Go.RowKit

set_option maxRecDepth 100000 in
set_option maxHeartbeats 1000000 in
/-- All others, in order: whatever is done to each. -/
theorem others_any {w : World} {p f : Nat} {first captured : Array Value} {id : Int} {N : Nat} (Inv : Nat → World → Prop) (hN : N ≤ 5) (hf : ∀ (args : Array Value) (w : World), (callFunc f args).run Try.prog w = .ok (.enter f args) w)
    (hcell : ∀ k w, Inv k w → w.cell? ⟨p, 0, none⟩ = some (.int .i64 id) ∧ w.cell? ⟨p, 1, none⟩ = some (.int .i64 N))
    (hstep : ∀ k w, Inv k w → k < N → ((k : Int) + 1 = id → Inv (k + 1) w) ∧ ((k : Int) + 1 ≠ id → Calls Try.prog f (first ++ #[.int .i64 ((k : Int) + 1)] ++ captured) w fun e w' => e = .returned (.tuple #[]) ∧ Inv (k + 1) w'))
    (h0 : Inv 0 w) :
    Calls Try.prog 58 #[.pointer (some ⟨p, 0, none⟩), .func (.func f) first captured] w fun e w' => e = .returned (.tuple #[]) ∧ Inv N w' := by
  have HC := Lib.hid hcell
  have HS := Lib.hid hstep
  have H0 := Lib.hid h0
  clear hcell hstep h0
  go_enter Try.func58, Try.ntmps58
  go_wp2
  go_loopw [4] (fun i wr => ∃ k : Nat, k ≤ N ∧ i = .int .i64 ((k : Int) + 1) ∧ Inv k wr) (fun i _ => 7 - (intOf i).toNat)
  case atStart => exact ⟨0, by omega, rfl, H0.out⟩
  case round =>
    obtain ⟨k, hk, rfl, hI⟩ := hrel
    obtain ⟨c0, c1⟩ := HC.out k wr hI
    have HI := Lib.hid hI
    clear hI
    by_cases hlt : k < N
    · by_cases hne : (k : Int) + 1 = id
      · have hn := (HS.out k wr HI.out hlt).1 hne
        have HN := Lib.hid hn
        clear hn
        subst hne
        go_wp2
        go_roundw
        case rel => exact ⟨k + 1, by omega, by go_num, HN.out⟩
        case measure => simp [intOf]; omega
      · have hcall := (HS.out k wr HI.out hlt).2 hne
        have HN := Lib.hid hcall
        clear hcall
        have hb : ((k : Int) + 1 != id) = true := by rw [bne_iff_ne]; exact hne
        go_wp2_with (refine HN.out.mono ?_; rintro e w' ⟨rfl, hI'⟩)
        go_roundw
        case rel => exact ⟨k + 1, by omega, by go_num, hI'⟩
        case measure => simp [intOf]; omega
    · have : k = N := by omega
      subst this
      go_wp2
      go_end0
      exact ⟨rfl, HI.out⟩

theorem call65 (args : Array Value) (w : World) : (callFunc 65 args).run Try.prog w = .ok (.enter 65 args) w := by
  go_simp
end Go.Proofs.Ytibjbpakbfodaaa
