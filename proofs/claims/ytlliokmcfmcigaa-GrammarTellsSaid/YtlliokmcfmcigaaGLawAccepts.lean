/- The law GrammarAccepts, walked: true for every row of kinds. -/
import Derived.Test.YtlliokmcfmcigaaGRefAcc
import Derived.Test.YtlliokmcfmcigaaGLawRules
namespace Go.Proofs.Ytlliokmcfmcigaa.GR
open Go.RowKit Go.Proofs.YtlliokmcfmcigaaW.PrintWords Go.Proofs.YtlliokmcfmcigaaW.PrintLast Go.Proofs.YtlliokmcfmcigaaW.PrintMore
set_option linter.unusedVariables false
set_option linter.unusedSimpArgs false
theorem same_nats (w : World) (A0 A1 : Option Addr) (c0 c1 : Nat) (l : List Nat) (h0 : Kd.C (Kd.int .u8) w A0 l.length (l.map Int.ofNat)) (h1 : Kd.C (Kd.int .u8) w A1 l.length (l.map Int.ofNat)) (hb : l.length ≤ 9223372036854775807) (hc0 : l.length ≤ c0) (hc1 : l.length ≤ c1) :
    Calls Try.prog 10 #[.slice A0 l.length c0, .slice A1 l.length c1] w fun e w' => e = .returned (.bool true) ∧ Drawn0 w w' := by
  have hl : (l.map Int.ofNat).length = l.length := by simp
  have := same_any w A0 A1 c0 c1 (l.map Int.ofNat) (l.map Int.ofNat) (by rw [hl]; exact h0) (by rw [hl]; exact h1) (by omega) (by omega) (by omega)
  rw [hl] at this
  refine this.mono ?_
  rintro e w' ⟨rfl, h⟩
  exact ⟨by simp, h⟩
set_option maxHeartbeats 4000000 in
theorem lawAccepts_any (w : World) (A : Option Addr) (c : Nat) (ks : List Nat) (hk : ∀ k, k ∈ ks → k < 256) (hC : Kd.C (Kd.int .u8) w A ks.length (ks.map Int.ofNat)) (hc : ks.length ≤ c) (hm : ks.length ≤ 9223372036854775807) :
    Calls Try.prog 4 #[.slice A ks.length c] w fun e w' => e = .returned (.bool true) ∧ Below w.heap.size w w' := by
  have HC := Aside0.mk hC
  have HKS := Aside0.mk hk
  clear hC hk
  by_cases hlt : ks.length ≤ 14
  · have hd : decide ((14 : Int) < (ks.length : Int)) = false := by simp; omega
    go_enter Try.func4, Try.ntmps4
    obtain ⟨b, hb1, hb2⟩ : ∃ b, Gm.run (Gm.steps ks) [51] ks = some b ∧ (b = true ↔ Gm.Der [51] ks) := by
      rcases Gm.run_says ks with ⟨h1, h2⟩ | ⟨h1, h2⟩
      · exact ⟨true, h1, fun _ => h2, fun _ => rfl⟩
      · exact ⟨false, h1, fun h => absurd h (by decide), fun h => absurd h h2⟩
    have hst : Gm.steps ks ≤ 1099511627776 := by unfold Gm.steps; omega
    have HRUN := Aside0.mk hb1
    have HSAY := Aside0.mk hb2
    clear hb1 hb2
    go_wp2_with ((with_reducible refine gate_builtin (b := .append) (xs := #[.tmp 7, .tmp 8]) rfl ?_); at_builtin; refine print_append_row_of (w0 := w) (Value.int .u8) (0 : Int) w.heap.size rfl (.tmp 7) (.tmp 8) 26 5 (.int .u8 0) 1 rfl Try.underlying26 (by kernel_rfl) rfl (by decide) (fun _ => rfl) (.slice (some ⟨w.heap.size, 0, none⟩) 0 0) [] (ks.map Int.ofNat) A ks.length c rfl rfl ?aO ?aR ?aB ?aS ?aL ?_)
    case aO => exact own_lit_of (enc := Value.int .u8) w w.heap.size 5 [] (Nat.le_refl _) (by simp)
    case aR => exact Kd.reads_of_C (d := (0 : Int)) (Kd.C_below HC.out ((Below.refl _ _).alloc (Nat.le_refl _) _))
    case aB => exact (Below.refl _ _).alloc (Nat.le_refl _) _
    case aS => rw [World.size_alloc]; omega
    case aL => simp; omega
    intro v1 w1 hown hb1 hgr hat
    obtain ⟨A1, c1, rfl, hc1, hr1⟩ := own_reads_of_le (d := (0 : Int)) hown
    have HR1 : Aside0 (Kd.C (Kd.int .u8) w1 A1 ks.length (ks.map Int.ofNat)) := ⟨Kd.C_of_reads (h1 := fun _ => rfl) hr1⟩
    have HB1 := Aside0.mk hb1
    clear hown hb1 hgr hat hr1
    go_wp2_with fail
    refine (accepts_any _ A1 c1 ks hm HKS.out HR1.out _ b hst HRUN.out).mono ?_
    rintro e w2 ⟨rfl, hb2⟩
    have HB2 : Aside0 (Below w.heap.size w w2) := ⟨below_then HB1.out HB1.out.size hb2⟩
    have HR2 : Aside0 (Kd.C (Kd.int .u8) w2 A1 ks.length (ks.map Int.ofNat)) := ⟨Kd.C_below HR1.out hb2⟩
    clear hb2
    go_wp2_with fail
    refine (refAccepts_any _ A c ks hlt HKS.out (Kd.C_below HC.out HB2.out)).mono ?_
    rintro e w3 ⟨b', hb', rfl, hb3⟩
    have HSA := Aside0.mk hb'
    have HB3 : Aside0 (Below w.heap.size w w3) := ⟨below_then HB2.out HB2.out.size hb3⟩
    have HR3 : Aside0 (Kd.C (Kd.int .u8) w3 A1 ks.length (ks.map Int.ofNat)) := ⟨Kd.C_below HR2.out hb3⟩
    have hbb : b = b' := by
      have := HSAY.out
      cases b <;> cases b' <;> simp_all
    clear hb3 hb'
    subst hbb
    go_wp2_with fail
    refine (same_nats w3 A1 A c1 c ks HR3.out (Kd.C_below HC.out HB3.out) hm hc1 hc).mono ?_
    rintro e w4 ⟨rfl, ⟨n4, rfl⟩⟩
    go_wp2
    go_ret
    exact ⟨rfl, pw_below_drewN HB3.out n4⟩
  · have hd : decide ((14 : Int) < (ks.length : Int)) = true := by simp; omega
    go_enter Try.func4, Try.ntmps4
    go_wp2
    go_ret
    exact ⟨rfl, Below.refl _ _⟩
/-- whole numbers of one byte are natural numbers -/
theorem u8_nats (l : List Int) (h : ∀ x ∈ l, (Lit.int .u8 x).wf = true) : ∃ ks : List Nat, l = ks.map Int.ofNat ∧ ∀ k, k ∈ ks → k < 256 := by
  induction l with
  | nil => exact ⟨[], rfl, fun _ h => by cases h⟩
  | cons x l ih =>
    obtain ⟨ks, rfl, hk⟩ := ih (fun y hy => h y (List.mem_cons_of_mem _ hy))
    have hx : 0 ≤ x ∧ x ≤ 255 := by
      have := h x List.mem_cons_self
      simp [Lit.wf, IntKind.min, IntKind.max, IntKind.signed, IntKind.bits] at this
      omega
    refine ⟨x.toNat :: ks, by simp; omega, fun k hk' => ?_⟩
    rcases List.mem_cons.1 hk' with rfl | hk'
    · omega
    · exact hk k hk'
theorem lawAccepts_row (w : World) (A : Option Addr) (c : Nat) (l : List Int) (hr : Kd.C (Kd.int .u8) w A l.length l) (hc : l.length ≤ c) (hm : l.length ≤ maxLen) (hw : ∀ x ∈ l, (Lit.int .u8 x).wf = true) (hy : l.length * 1 ≤ 140737488351232) :
    Calls Try.prog 4 #[.slice A l.length c] w fun e w' => e = .returned (.bool true) ∧ Below w.heap.size w w' := by
  obtain ⟨ks, rfl, hk⟩ := u8_nats l hw
  rw [List.length_map] at *
  exact lawAccepts_any w A c ks hk hr hc (by omega)
end Go.Proofs.Ytlliokmcfmcigaa.GR
