/- The law GrammarMade, walked: true whatever is picked. -/
import Derived.Test.YtlliokmcfmcigaaGMade
import Derived.Test.YtlliokmcfmcigaaWGuard
namespace Go.Proofs.Ytlliokmcfmcigaa.GR
open Go.RowKit Go.Proofs.YtlliokmcfmcigaaW.PrintWords Go.Proofs.YtlliokmcfmcigaaW.PrintLast Go.Proofs.YtlliokmcfmcigaaW.PrintMore
set_option linter.unusedVariables false
set_option linter.unusedSimpArgs false
theorem der_kinds {st ts : List Nat} (h : Gm.Der st ts) : ∀ k ∈ ts, k < 256 := by
  induction h with
  | nil => intro k hk; cases hk
  | tok _ h1 h2 _ ih =>
    intro k hk
    rcases List.mem_cons.1 hk with rfl | hk
    · omega
    · exact ih k hk
  | rule _ _ ih => exact ih
/-- what Accepts says of a row that lies in memory -/
theorem accepts_says (w : World) (A : Option Addr) (c : Nat) (ks : List Nat) (b : Bool) (hlen : ks.length ≤ 100000) (hk : ∀ k, k ∈ ks → k < 256) (hc : Kd.C (Kd.int .u8) w A ks.length (ks.map Int.ofNat)) (hb : if b then Gm.Der [51] ks else ¬ Gm.Der [51] ks) :
    Calls Try.prog 11 #[.slice A ks.length c] w fun e w' => e = .returned (.bool b) ∧ Below w.heap.size w w' := by
  refine accepts_any w A c ks (by omega) hk hc (Gm.steps ks) b (by unfold Gm.steps; omega) ?_
  rcases Gm.run_says ks with ⟨h1, h2⟩ | ⟨h1, h2⟩
  · cases b with
    | true => exact h1
    | false => exact absurd h2 hb
  · cases b with
    | true => exact absurd hb h2
    | false => exact h1
theorem accepts_n (w : World) (A : Option Addr) (c n : Nat) (ks : List Nat) (b : Bool) (hn : ks.length = n) (hlen : n ≤ 100000) (hk : ∀ k, k ∈ ks → k < 256) (hc : Kd.C (Kd.int .u8) w A n (ks.map Int.ofNat)) (hb : if b then Gm.Der [51] ks else ¬ Gm.Der [51] ks) :
    Calls Try.prog 11 #[.slice A n c] w fun e w' => e = .returned (.bool b) ∧ Below w.heap.size w w' := by
  subst hn
  exact accepts_says w A c ks b hlen hk hc hb
theorem u8n_encs (l : List Nat) : u8n l = encs (Value.int .u8) (l.map Int.ofNat) := rfl
/-- a row of the call's own, as it is read -/
theorem own_C {w : World} {D : Nat} {v : Value} {l : List Nat} (h : w.ownsRow D 5 1 v l.length (u8n l)) : ∃ A c, v = .slice A l.length c ∧ l.length ≤ c ∧ Kd.C (Kd.int .u8) w A l.length (l.map Int.ofNat) := by
  have h2 : w.ownsRow D 5 1 v l.length (encs (Value.int .u8) (l.map Int.ofNat)) := h
  obtain ⟨A, c, rfl, hc, hr⟩ := own_reads_of_le (d := (0 : Int)) h2
  exact ⟨A, c, rfl, hc, Kd.C_of_reads (h1 := fun _ => rfl) hr⟩
theorem own_C' {w : World} {D : Nat} {v : Value} {l : List Int} {n : Nat} (h : w.ownsRow D 5 1 v n (encs (Value.int .u8) l)) : ∃ A c, v = .slice A n c ∧ n ≤ c ∧ Kd.C (Kd.int .u8) w A n l := by
  obtain ⟨A, c, rfl, hc, hr⟩ := own_reads_of_le (d := (0 : Int)) h
  exact ⟨A, c, rfl, hc, Kd.C_of_reads (h1 := fun _ => rfl) hr⟩
set_option maxHeartbeats 8000000 in
set_option maxRecDepth 100000 in
theorem lawMade_any (w : World) (A B : Option Addr) (ca cb : Nat) (pa pb : List Int) (hA : Kd.C (Kd.int .i64) w A pa.length pa) (hB : Kd.C (Kd.int .i64) w B pb.length pb) (ma : pa.length ≤ 9223372036854775807) (mb : pb.length ≤ 9223372036854775807) :
    Calls Try.prog 6 #[.slice A pa.length ca, .slice B pb.length cb] w fun e w' => e = .returned (.bool true) ∧ Below w.heap.size w w' := by
  have HA := Aside0.mk hA
  have HB := Aside0.mk hB
  clear hA hB
  go_enter Try.func6, Try.ntmps6
  go_wp2_with fail
  refine (awake_any _).mono ?_
  rintro e w1 ⟨rfl, hb1⟩
  have HB1 := Aside0.mk hb1
  have HA1 := Aside0.mk (Kd.C_below HA.out hb1)
  have HBB1 := Aside0.mk (Kd.C_below HB.out hb1)
  clear hb1 HA HB
  by_cases hla : pa.length ≤ 400
  · have hd1 : decide ((400 : Int) < (pa.length : Int)) = false := by simp; omega
    by_cases hlb : pb.length ≤ 400
    · have hd2 : decide ((400 : Int) < (pb.length : Int)) = false := by simp; omega
      go_wp2_with fail
      refine (made_any _ A ca pa HA1.out hla).mono ?_
      rintro e w2 ⟨vx, x, rfl, hox, hdx, hlx, hb2⟩
      obtain ⟨AX, cx, rfl, hcx, hCX⟩ := own_C hox
      have HB2 : Aside0 (Below w.heap.size w w2) := ⟨below_then HB1.out HB1.out.size hb2⟩
      have HCX := Aside0.mk hCX
      have HDX := Aside0.mk hdx
      have HBB2 := Aside0.mk (Kd.C_below HBB1.out hb2)
      clear hb2 hox hCX hdx HB1 HBB1 HA1
      go_wp2_with fail
      refine (made_any _ B cb pb HBB2.out hlb).mono ?_
      rintro e w3 ⟨vy, y, rfl, hoy, hdy, hly, hb3⟩
      obtain ⟨AY, cy, rfl, hcy, hCY⟩ := own_C hoy
      have HB3 : Aside0 (Below w.heap.size w w3) := ⟨below_then HB2.out HB2.out.size hb3⟩
      have HCX3 := Aside0.mk (Kd.C_below HCX.out hb3)
      have HCY := Aside0.mk hCY
      have HDY := Aside0.mk hdy
      clear hb3 hoy hCY hdy HB2 HBB2 HCX
      have HKX := Aside0.mk (der_kinds HDX.out)
      have HKY := Aside0.mk (der_kinds HDY.out)
      go_wp2_with fail
      refine (accepts_says _ AX cx x true (by omega) HKX.out HCX3.out HDX.out).mono ?_
      rintro e w4 ⟨rfl, hb4⟩
      have HB4 : Aside0 (Below w.heap.size w w4) := ⟨below_then HB3.out HB3.out.size hb4⟩
      have HCX4 := Aside0.mk (Kd.C_below HCX3.out hb4)
      have HCY4 := Aside0.mk (Kd.C_below HCY.out hb4)
      clear hb4 HB3 HCX3 HCY
      go_wp2_with fail
      refine (accepts_says _ AY cy y true (by omega) HKY.out HCY4.out HDY.out).mono ?_
      rintro e w5 ⟨rfl, hb5⟩
      have HB5 : Aside0 (Below w.heap.size w w5) := ⟨below_then HB4.out HB4.out.size hb5⟩
      have HCX5 := Aside0.mk (Kd.C_below HCX4.out hb5)
      have HCY5 := Aside0.mk (Kd.C_below HCY4.out hb5)
      clear hb5 HB4 HCX4 HCY4
      go_wp2_with ((with_reducible refine gate_builtin (b := .append) (xs := #[.tmp 28, .tmp 29]) rfl ?_); at_builtin; refine gate_guard (by rfl) ?_; refine print_append_row_of (w0 := w5) (Value.int .u8) (0 : Int) w5.heap.size rfl (.tmp 28) (.tmp 29) 26 5 (.int .u8 0) 1 rfl Try.underlying26 (by kernel_rfl) rfl (by decide) (fun _ => rfl) (.slice (some ⟨w5.heap.size, 0, none⟩) 0 0) [] (x.map Int.ofNat) AX x.length cx rfl rfl ?aO ?aR ?aB ?aS ?aL ?_)
      case aO => exact own_lit_of (enc := Value.int .u8) w5 w5.heap.size 5 [] (Nat.le_refl _) (by simp)
      case aR => exact Kd.reads_of_C (d := (0 : Int)) (Kd.C_below HCX5.out ((Below.refl _ _).alloc (Nat.le_refl _) _))
      case aB => exact (Below.refl _ _).alloc (Nat.le_refl _) _
      case aS => rw [World.size_alloc]; omega
      case aL => simp; omega
      intro v6 w6 hown6 hb6 hgr6 hat6
      have HO6 : Aside0 (w6.ownsRow w5.heap.size 5 1 v6 (x.map Int.ofNat).length (encs (Value.int .u8) (x.map Int.ofNat))) := ⟨by simpa using hown6⟩
      have HB6 := Aside0.mk hb6
      have HCY6 := Aside0.mk (Kd.C_below HCY5.out hb6)
      clear hown6 hb6 hgr6 hat6
      go_wp2_with ((with_reducible refine gate_builtin (b := .append) (xs := #[.tmp 30, .tmp 31]) rfl ?_); at_builtin; refine gate_guard (by rfl) ?_; refine print_append_row_of (w0 := w5) (Value.int .u8) (0 : Int) w5.heap.size rfl (.tmp 30) (.tmp 31) 26 5 (.int .u8 0) 1 rfl Try.underlying26 (by kernel_rfl) rfl (by decide) (fun _ => rfl) v6 (x.map Int.ofNat) (y.map Int.ofNat) AY y.length cy rfl rfl HO6.out (Kd.reads_of_C (d := (0 : Int)) HCY6.out) HB6.out HB6.out.size ?bL ?_)
      case bL => simp; omega
      intro v7 w7 hown7 hb7 hgr7 hat7
      rw [← List.map_append] at hown7
      obtain ⟨A7, c7, rfl, hc7, hC7⟩ := own_C' hown7
      have HB7 : Aside0 (Below w.heap.size w w7) := ⟨below_then HB5.out HB5.out.size hb7⟩
      have HC7 := Aside0.mk hC7
      have HCX7 := Aside0.mk (Kd.C_below HCX5.out hb7)
      have HCY7 := Aside0.mk (Kd.C_below HCY5.out hb7)
      clear hown7 hb7 hgr7 hat7 hC7 HO6 HB6 HCY6 HB5 HCX5 HCY5 hc7
      go_wp2_with fail
      refine (accepts_n _ A7 c7 _ (x ++ y) true (by simp) (by omega) (fun k hk => by rcases List.mem_append.1 hk with h | h; exact HKX.out k h; exact HKY.out k h) HC7.out (Gm.file_append HDX.out HDY.out)).mono ?_
      rintro e w8 ⟨rfl, hb8⟩
      have HB8 : Aside0 (Below w.heap.size w w8) := ⟨below_then HB7.out HB7.out.size hb8⟩
      have HCX8 := Aside0.mk (Kd.C_below HCX7.out hb8)
      have HCY8 := Aside0.mk (Kd.C_below HCY7.out hb8)
      clear hb8 HB7 HC7 HCX7 HCY7
      go_wp2_with ((with_reducible refine gate_builtin (b := .append) (xs := #[.tmp 36, .tmp 37]) rfl ?_); at_builtin; refine gate_guard (by rfl) ?_; refine print_append_row_of (w0 := w8) (Value.int .u8) (0 : Int) w8.heap.size rfl (.tmp 36) (.tmp 37) 26 5 (.int .u8 0) 1 rfl Try.underlying26 (by kernel_rfl) rfl (by decide) (fun _ => rfl) (.slice (some ⟨w8.heap.size, 0, none⟩) 0 0) [] (x.map Int.ofNat) AX x.length cx rfl rfl ?cO ?cR ?cB ?cS ?cL ?_)
      case cO => exact own_lit_of (enc := Value.int .u8) w8 w8.heap.size 5 [] (Nat.le_refl _) (by simp)
      case cR => exact Kd.reads_of_C (d := (0 : Int)) (Kd.C_below HCX8.out ((Below.refl _ _).alloc (Nat.le_refl _) _))
      case cB => exact (Below.refl _ _).alloc (Nat.le_refl _) _
      case cS => rw [World.size_alloc]; omega
      case cL => simp; omega
      intro v9 w9 hown9 hb9 hgr9 hat9
      have HO9 : Aside0 (w9.ownsRow w8.heap.size 5 1 v9 (x.map Int.ofNat).length (encs (Value.int .u8) (x.map Int.ofNat))) := ⟨by simpa using hown9⟩
      have HB9 := Aside0.mk hb9
      have HCY9 := Aside0.mk (Kd.C_below HCY8.out hb9)
      clear hown9 hb9 hgr9 hat9
      have hlit9 : Kd.C (Kd.int .u8) (w9.alloc (.cells #[.int .u8 13] 5)) (some ⟨w9.heap.size, 0, none⟩) 1 ([13].map Int.ofNat) := C_u8s _ _ [13] (by decide) (heap_alloc_new _ _)
      have HLIT9 := Aside0.mk hlit9
      clear hlit9
      go_wp2_with ((with_reducible refine gate_builtin (b := .append) (xs := #[.tmp 38, .tmp 39]) rfl ?_); at_builtin; refine gate_guard (by rfl) ?_; refine print_append_row_of (w0 := w8) (Value.int .u8) (0 : Int) w8.heap.size rfl (.tmp 38) (.tmp 39) 26 5 (.int .u8 0) 1 rfl Try.underlying26 (by kernel_rfl) rfl (by decide) (fun _ => rfl) v9 (x.map Int.ofNat) ([13].map Int.ofNat) (some ⟨w9.heap.size, 0, none⟩) 1 1 rfl rfl (World.ownsRow.alloc HO9.out _) (Kd.reads_of_C (d := (0 : Int)) HLIT9.out) (HB9.out.alloc HB9.out.size _) ?dS ?dL ?_)
      case dS => have := HB9.out.size; rw [World.size_alloc]; omega
      case dL => simp; omega
      intro v10 w10 hown10 hb10 hgr10 hat10
      have hown10' : w10.ownsRow w8.heap.size 5 1 v10 (x.length + 1) (encs (Value.int .u8) ((x ++ [13]).map Int.ofNat)) := by simpa using hown10
      obtain ⟨A10, c10, rfl, hc10, hC10⟩ := own_C' hown10'
      have HB10 : Aside0 (Below w.heap.size w w10) := ⟨below_then HB8.out HB8.out.size hb10⟩
      have HC10 := Aside0.mk hC10
      have HCY10 := Aside0.mk (Kd.C_below HCY8.out hb10)
      clear hown10 hown10' hb10 hgr10 hat10 hC10 HO9 HB9 HCY9 HB8 HCX8 HCY8 hc10 HLIT9
      go_wp2_with fail
      refine (accepts_n _ A10 c10 _ (x ++ [13]) false (by simp) (by omega) (fun k hk => by rcases List.mem_append.1 hk with h | h; exact HKX.out k h; simp at h; omega) HC10.out (Gm.not_else x)).mono ?_
      rintro e w11 ⟨rfl, hb11⟩
      have HB11 : Aside0 (Below w.heap.size w w11) := ⟨below_then HB10.out HB10.out.size hb11⟩
      have HCY11 := Aside0.mk (Kd.C_below HCY10.out hb11)
      clear hb11 HB10 HC10 HCY10
      go_wp2_with ((with_reducible refine gate_builtin (b := .append) (xs := #[.tmp 45, .tmp 46]) rfl ?_); at_builtin; refine gate_guard (by rfl) ?_; refine print_append_row_of (w0 := w11) (Value.int .u8) (0 : Int) w11.heap.size rfl (.tmp 45) (.tmp 46) 26 5 (.int .u8 0) 1 rfl Try.underlying26 (by kernel_rfl) rfl (by decide) (fun _ => rfl) (.slice (some ⟨w11.heap.size, 0, none⟩) 1 1) [23] (y.map Int.ofNat) AY y.length cy rfl rfl ?eO ?eR ?eB ?eS ?eL ?_)
      case eO => exact own_lit_of (enc := Value.int .u8) w11 w11.heap.size 5 [23] (Nat.le_refl _) (by simp)
      case eR => exact Kd.reads_of_C (d := (0 : Int)) (Kd.C_below HCY11.out ((Below.refl _ _).alloc (Nat.le_refl _) _))
      case eB => exact (Below.refl _ _).alloc (Nat.le_refl _) _
      case eS => rw [World.size_alloc]; omega
      case eL => simp; omega
      intro v12 w12 hown12 hb12 hgr12 hat12
      have hown12' : w12.ownsRow w11.heap.size 5 1 v12 (y.length + 1) (encs (Value.int .u8) ((23 :: y).map Int.ofNat)) := by simpa using hown12
      obtain ⟨A12, c12, rfl, hc12, hC12⟩ := own_C' hown12'
      have HB12 : Aside0 (Below w.heap.size w w12) := ⟨below_then HB11.out HB11.out.size hb12⟩
      have HC12 := Aside0.mk hC12
      clear hown12 hown12' hb12 hgr12 hat12 hC12 HB11 HCY11 hc12
      go_wp2_with fail
      refine (accepts_n _ A12 c12 _ (23 :: y) false (by simp) (by omega) (fun k hk => by rcases List.mem_cons.1 hk with h | h; omega; exact HKY.out k h) HC12.out (Gm.not_end y)).mono ?_
      rintro e w13 ⟨rfl, hb13⟩
      have HB13 : Aside0 (Below w.heap.size w w13) := ⟨below_then HB12.out HB12.out.size hb13⟩
      clear hb13 HB12 HC12
      go_wp2
      go_ret
      exact ⟨rfl, HB13.out⟩
    · have hd2 : decide ((400 : Int) < (pb.length : Int)) = true := by simp; omega
      go_wp2
      go_ret
      exact ⟨rfl, HB1.out⟩
  · have hd1 : decide ((400 : Int) < (pa.length : Int)) = true := by simp; omega
    go_wp2
    go_ret
    exact ⟨rfl, HB1.out⟩
theorem lawMade_row (w : World) (A : Option Addr) (ca : Nat) (pa : List Int) (hA : Kd.C (Kd.int .i64) w A pa.length pa) (hca : pa.length ≤ ca) (ma : pa.length ≤ maxLen) (wa : ∀ x ∈ pa, (Lit.int .i64 x).wf = true) (ya : pa.length * 8 ≤ 140737488351232)
    (B : Option Addr) (cb : Nat) (pb : List Int) (hB : Kd.C (Kd.int .i64) w B pb.length pb) (hcb : pb.length ≤ cb) (mb : pb.length ≤ maxLen) (wb : ∀ x ∈ pb, (Lit.int .i64 x).wf = true) (yb : pb.length * 8 ≤ 140737488351232) :
    Calls Try.prog 6 #[.slice A pa.length ca, .slice B pb.length cb] w fun e w' => e = .returned (.bool true) ∧ Below w.heap.size w w' :=
  lawMade_any w A B ca cb pa pb hA hB (by unfold maxLen at ma; omega) (by unfold maxLen at mb; omega)
end Go.Proofs.Ytlliokmcfmcigaa.GR
