/- grammar.Accepts, walked: what the predictive parser says. -/
import Derived.Test.YtlliokmcfmcigaaGMarks
import Derived.WalkMore
import Derived.WalkSmall
namespace Go.Proofs.Ytlliokmcfmcigaa.GR
attribute [local go_sem] Oper.semAt_some
open Go.RowKit Go.Shelf Go.Proofs.YtlliokmcfmcigaaW.PrintWords Go.Proofs.YtlliokmcfmcigaaW.PrintLast Go.Proofs.YtlliokmcfmcigaaW.PrintMore
set_option linter.unusedVariables false
set_option linter.unusedSimpArgs false
theorem backward_any (w : World) (A : Option Addr) (m c : Nat) : Calls Try.prog 35 #[.slice A m c] w fun e w' => e = .returned (.func (.func 48) #[] #[.pointer (some ⟨w.heap.size, 0, none⟩)]) ∧ w.alloc (.cells #[.slice A m c] 26) = w' := by
  have hm : ∀ (fn : Fn) (first cap : Array Value) (w : World), (Instr.makeFunc fn first cap).run Try.prog w = .ok (.func fn first cap) w := fun _ _ _ _ => rfl
  go_enter Try.func35, Try.ntmps35
  go_wp2
  go_ret
  exact ⟨rfl, rfl⟩
theorem rd_map (ks : List Nat) (i : Nat) (h : i < ks.length) : rd (ks.map Int.ofNat) (i : Int) = ((ks[i] : Nat) : Int) := by
  unfold rd
  rw [Int.toNat_natCast, List.getD_eq_getElem?_getD, List.getElem?_map, List.getElem?_eq_getElem h]
  rfl
theorem hd_drop (ks : List Nat) (i : Nat) (h : i < ks.length) : ks.drop i = ks[i] :: ks.drop (i + 1) := List.drop_eq_getElem_cons h
theorem lit74 (a : Act) (h : a.tmps.size = 74) : ∃ us : Nat → Value, a = { tmps := #[us 0, us 1, us 2, us 3, us 4, us 5, us 6, us 7, us 8, us 9, us 10, us 11, us 12, us 13, us 14, us 15, us 16, us 17, us 18, us 19, us 20, us 21, us 22, us 23, us 24, us 25, us 26, us 27, us 28, us 29, us 30, us 31, us 32, us 33, us 34, us 35, us 36, us 37, us 38, us 39, us 40, us 41, us 42, us 43, us 44, us 45, us 46, us 47, us 48, us 49, us 50, us 51, us 52, us 53, us 54, us 55, us 56, us 57, us 58, us 59, us 60, us 61, us 62, us 63, us 64, us 65, us 66, us 67, us 68, us 69, us 70, us 71, us 72, us 73], defers := a.defers } ∧ ∀ j, us j = a.tmps.getD j undef := by
  refine ⟨fun j => a.tmps.getD j undef, ?_, fun _ => rfl⟩
  have e : a.tmps = ((List.range 74).map (fun j => a.tmps.getD j undef)).toArray := by
    apply Array.ext
    · simp [h]
    · intro i h1 h2
      simp [Array.getElem?_eq_getElem h1]
  cases a with
  | mk t ds =>
    dsimp only at e ⊢
    congr 1
theorem drop_isEmpty (ks : List Nat) (i : Nat) (h : i ≤ ks.length) : (ks.drop i).isEmpty = (i == ks.length) := by
  by_cases e : i = ks.length
  · rw [e, List.drop_length]; simp
  · have h1 : (i == ks.length) = false := by simpa using e
    rw [h1, List.drop_eq_getElem_cons (by omega)]; rfl
def u8n (l : List Nat) : List Value := nums .u8 (l.map Int.ofNat)
theorem u8n_snoc (l : List Nat) (x : Nat) : u8n (l ++ [x]) = u8n l ++ [.int .u8 (x : Int)] := by simp [u8n, nums]
theorem own_shape {W : World} {base : Nat} {e : TypeId} {n : Nat} {v : Value} {xs : List Value} (h : W.ownsRow base e 1 v (n + 1) xs) : ∃ q cap, v = .slice (some ⟨q, 0, none⟩) (n + 1) cap ∧ base ≤ q ∧ q < W.heap.size ∧ n + 1 ≤ cap := by
  rcases h.2 with ⟨rfl, h1⟩ | ⟨q, cap, cur, rfl, hb, hh, hcap, _⟩
  · have := h.1
    omega
  · exact ⟨q, cap, rfl, hb, (Array.getElem?_eq_some_iff.1 hh).1, hcap⟩
theorem own_last {W : World} {base q cap : Nat} {e : TypeId} {s : List Nat} {x : Nat} (h : W.ownsRow base e 1 (.slice (some ⟨q, 0, none⟩) (s.length + 1) cap) (s.length + 1) (u8n (x :: s).reverse)) : W.cell? ⟨q, s.length, none⟩ = some (.int .u8 (x : Int)) := by
  have h2 := h.cells (g := q) rfl s.length (.int .u8 (x : Int)) ?_
  · rwa [add_plain] at h2
  rw [List.reverse_cons, u8n_snoc, List.getElem?_append_right (by simp [u8n, nums])]
  simp [u8n, nums]
theorem part_lt (x : Nat) (h : Gm.part x = true) : x < 256 := by
  have : Gm.partL.all (fun s => decide (s < 256)) = true := by decide +kernel
  have h2 : x ∈ Gm.partL := by simpa [Gm.part] using h
  simpa using List.all_eq_true.1 this x h2
theorem ok_lt {s : List Nat} (h : Gm.OkSt s) (x : Nat) (hx : x ∈ s) : x < 256 := by
  rcases h x hx with h | h
  · exact part_lt x h
  · omega
theorem Marks.set {B : Nat} {ds : List Deferred} {w : World} (h : Marks B ds w) {sb : Nat} {cs : Array Value} {t : TypeId} (hb : w.heap[sb]? = some (.cells cs t (0, 0))) (j : Nat) (u : Value) : Marks B ds (w.setCell ⟨sb, j, none⟩ u) :=
  h.keep (fun D o hd hc => by
    have hne : D ≠ sb := fun e => by
      subst e
      rw [hb] at hd
      injection hd with hd
      subst hd
      cases hc
    rw [Below.heap_setCell w ⟨sb, j, none⟩ u D hne]; exact hd)
theorem Marks.later {B : Nat} {ds : List Deferred} {w w1 : World} (h : Marks B ds w) (hb : Below w.heap.size w w1) : Marks B ds w1 :=
  h.keep (fun D o hd _ => (hb.block D (Array.getElem?_eq_some_iff.1 hd).1).trans hd)
/-- The stack (its top first) lies in a row of its own, the variable at block sb. -/
structure AccSt (w1 wr : World) (sb : Nat) (v : Value) (s : List Nat) : Prop where
  box : Box wr sb 26 v
  row : wr.ownsRow w1.heap.size 5 1 v s.length (u8n s.reverse)
  below : Below w1.heap.size w1 wr
  ok : Gm.OkSt s
theorem AccSt.later {w1 w2 w3 : World} {sb : Nat} {v : Value} {s : List Nat} (h : AccSt w1 w2 sb v s) (hb : Below w2.heap.size w2 w3) : AccSt w1 w3 sb v s :=
  ⟨h.box.below hb, pw_own_below h.row hb, below_then h.below h.below.size hb, h.ok⟩
theorem AccSt.alloc {w1 w2 : World} {sb : Nat} {v : Value} {s : List Nat} (h : AccSt w1 w2 sb v s) (o : Obj) : AccSt w1 (w2.alloc o) sb v s := h.later ((Below.refl _ _).alloc (Nat.le_refl _) _)
theorem sl_len (n : Nat) (hn : n < 74) : (nrule n).2.length ≤ 5 := by
  have : (List.range 74).all (fun n => decide ((nrule n).2.length ≤ 5)) = true := by decide +kernel
  simpa using List.all_eq_true.1 this n (by simpa using hn)
theorem wp_frame {P : Program} {c : Code} {Q : Exit → Act → World → Prop} {ts : Array Value} {ds : List Deferred} {w : World} (h : ∀ T : Array Value, T.size = ts.size → (∀ j, T.getD j undef = ts.getD j undef) → c.wp P Q ⟨T, ds⟩ w) : c.wp P Q ⟨ts, ds⟩ w := h ts rfl (fun _ => rfl)
/-- between two rounds of the loop over a rule: the stack has so many symbols more -/
def AccI (w1 : World) (sb bs : Nat) (sv : Value) (s : List Nat) (ds : List Deferred) (pre : List (Nat × Nat)) (W : World) : Prop :=
  (∃ v, Boxed W sb 26 v ∧ W.ownsRow w1.heap.size 5 1 v (s.length + pre.length) (u8n (s.reverse ++ pre.map Prod.snd)) ∧ True) ∧ (Boxed W bs 26 sv ∧ (Below w1.heap.size w1 W ∧ Marks w1.heap.size ds W))
theorem infoU8 : (Try.prog.info? 5).map (fun i => (i.zero, i.size, i.bytes)) = some (some (.int .u8 0), 1, 1) := by kernel_rfl
theorem hm5lt {B : Nat} {ds : List Deferred} {w : World} (h : Marks B ds w) : ∀ d, d ∈ ds → ∀ r, d.target = .collected r → r < w.heap.size := h.lt
theorem marks_own {β : Type} {B D : Nat} {ds : List Deferred} (hlt : ∀ d, d ∈ ds → ∀ r, d.target = .collected r → r < D) : OwnFrom D (fun (_ : β) W => Marks B ds W) := by
  intro s W W' row hs hg hr
  induction hs with
  | nil => exact .nil
  | @cons D' ds w h1 h2 h3 h4 ih =>
    refine .cons h1 ?_ (ih (fun d hd => hlt d (List.mem_cons_of_mem _ hd)) hg hr) h4
    refine (hg.block D' (Array.getElem?_eq_some_iff.1 h2).1 (fun e => ?_)).trans h2
    have := (hr D' e.symm).1
    have := hlt _ List.mem_cons_self D' rfl
    omega
theorem accI_own {w1 : World} {sb bs D : Nat} {sv : Value} {s : List Nat} {ds : List Deferred} (hD : w1.heap.size ≤ D) (hlt : ∀ d, d ∈ ds → ∀ r, d.target = .collected r → r < D) : OwnFrom D (AccI w1 sb bs sv s ds) :=
  OwnFrom.and (Own.from (holdsRow_own w1.heap.size sb 26 5 1 (fun pre => s.length + pre.length) (fun (pre : List (Nat × Nat)) => u8n (s.reverse ++ pre.map Prod.snd)) (fun _ _ => True)) _) (OwnFrom.and (Own.from (boxed_own bs 26 (fun _ => sv)) _) (OwnFrom.and (ownFrom_below (Nat.le_refl _) hD) (marks_own hlt)))
theorem back_snd (l : List Nat) : (upto (backAt l) l.length).map Prod.snd = l.reverse := by
  apply List.ext_getElem
  · simp [upto]
  · intro i h1 h2
    have hi : i < l.length := by simpa using h2
    simp only [upto, List.getElem_map, List.getElem_range, backAt, List.getElem_reverse]
    rw [List.getD_eq_getElem?_getD, List.getElem?_eq_getElem (by omega)]
    rfl
theorem below_then' {B : Nat} {w w1 w2 : World} (h : Below B w w1) (k : Below B w1 w2) : Below B w w2 := h.trans k
set_option maxRecDepth 100000 in
set_option maxHeartbeats 4000000 in
theorem accepts_any (w : World) (A : Option Addr) (c : Nat) (ks : List Nat) (hlen : ks.length ≤ 9223372036854775807) (hk : ∀ k, k ∈ ks → k < 256) (hc : Kd.C (Kd.int .u8) w A ks.length (ks.map Int.ofNat)) (k : Nat) (b : Bool) (hk40 : k ≤ 1099511627776) (hrun : Gm.run k [51] ks = some b) :
    Calls Try.prog 11 #[.slice A ks.length c] w fun e w' => e = .returned (.bool b) ∧ Below w.heap.size w w' := by
  have HC := Aside0.mk hc
  have HKS := Aside0.mk hk
  have HRUN := Aside0.mk hrun
  clear hc hk hrun
  refine (callsIn_wide (n := 9)).1 (callsIn_of_wp_marks Try.func11 rfl trivial (wpIn_wide.2 ?_))
  simp only [Try.ntmps11, List.size_toArray, List.length_cons, List.length_nil, Nat.reduceAdd, Nat.reduceSub, Array.replicate_succ, Array.replicate_zero, List.push_toArray, List.append_toArray, List.nil_append, List.cons_append]
  generalize hQ : bodyPostM _ _ _ _ _ = QQ
  have HQ := Aside0.mk hQ
  clear hQ
  go_wp2_with fail
  go_step3
  go_wp2_with fail
  refine (ready_any _).mono ?_
  rintro e w1 ⟨g, r, B, rfl, hg, hk1, hb1⟩
  have HK := Aside0.mk hk1
  have HB1 := Aside0.mk hb1
  clear hk1 hb1
  go_wp2
  go_step3
  go_wp2
  have hst : Aside0 (AccSt w1 ((w1.alloc (.cells #[.int .u8 51] 5)).alloc (.cells #[.slice (some ⟨w1.heap.size, 0, none⟩) 1 1] 26)) (w1.heap.size + 1) (.slice (some ⟨w1.heap.size, 0, none⟩) 1 1) [51]) := by
    refine ⟨⟨?_, ?_, ((Below.refl _ _).alloc (Nat.le_refl _) _).alloc (by rw [World.size_alloc]; omega) _, Gm.ok_file⟩⟩
    · have := heap_alloc_new (w1.alloc (.cells #[.int .u8 51] 5)) (.cells #[.slice (some ⟨w1.heap.size, 0, none⟩) 1 1] 26)
      rw [World.size_alloc] at this
      exact this
    · exact (own_lit w1 w1.heap.size 5 .u8 [51] (Nat.le_refl _) (by decide)).alloc _
  generalize ((w1.alloc (.cells #[.int .u8 51] 5)).alloc (.cells #[.slice (some ⟨w1.heap.size, 0, none⟩) 1 1] 26)) = W at *
  obtain ⟨sb, hsb⟩ : ∃ sb, sb = w1.heap.size + 1 := ⟨_, rfl⟩
  rw [← hsb] at hst ⊢
  have hsb1 : w1.heap.size < sb := by omega
  have HSB := Aside0.mk hsb
  clear hsb
  refine wp_loop_ghost_k (fun kq a wr => ∃ (i : Nat) (s : List Nat) (v : Value) (ds : List Deferred), (a.tmps.size = 74 ∧ a.defers = ds ∧ a.tmps.getD 0 undef = .slice A ks.length c ∧ a.tmps.getD 2 undef = .bool false ∧ a.tmps.getD 3 undef = .pointer (some ⟨g, 0, none⟩) ∧ a.tmps.getD 4 undef = .pointer (some ⟨sb, 0, none⟩) ∧ a.tmps.getD 5 undef = .int .i64 (i : Int)) ∧ i ≤ ks.length ∧ Aside0 (AccSt w1 wr sb v s) ∧ Aside0 (Marks w1.heap.size ds wr) ∧ Aside0 (Gm.run kq s (ks.drop i) = some b) ∧ s.length + 4 * kq ≤ 8796093022208) k ⟨0, [51], _, [], ⟨rfl, rfl, rfl, rfl, rfl, rfl, rfl⟩, Nat.zero_le _, hst, ⟨.nil⟩, HRUN, by simp; omega⟩ ?_
  clear HRUN hst
  intro kq a wr hI J KK hJ hKK
  obtain ⟨i, s, v, ds, ⟨hsz, hds, e0, e2, e3, e4, e5⟩, hi, HS, HM, HR, hlk⟩ := hI
  obtain ⟨us, ha, hu⟩ := lit74 a hsz
  rw [hds, hu 0 |>.trans e0, hu 2 |>.trans e2, hu 3 |>.trans e3, hu 4 |>.trans e4, hu 5 |>.trans e5] at ha
  subst ha
  clear hsz hds e0 e2 e3 e4 e5 hu
  obtain ⟨kq, rfl⟩ : ∃ q, kq = q + 1 := by
    cases kq with
    | zero => exact absurd HR.out (by simp [Gm.run])
    | succ q => exact ⟨q, rfl⟩
  have HCW : Aside0 (Kd.C (Kd.int .u8) wr A ks.length (ks.map Int.ofNat)) := ⟨Kd.C_below (Kd.C_below HC.out HB1.out) HS.out.below⟩
  have ends : ∀ (x : Bool) (tmps : Array Value) (ds' : List Deferred) (wx : World), tmps.getD 2 undef = .bool x → b = x → Marks w1.heap.size ds' wx → Below w1.heap.size w1 wx → QQ .ret { tmps := tmps, defers := ds' } wx := by
    intro x tmps ds' wx ht hb hm hbw
    rw [← HQ.out]
    refine leaves_marks (v := .bool x) hm (fun w2 a1 a2 a3 a4 a5 a6 => ⟨?_, by rw [hb], ?_⟩)
    · rw [results_tmp rfl, ht]
    · have h2 : Below w1.heap.size w1 w2 := hbw.trans ⟨a4, a3, a5, by omega, a1⟩
      exact below_then HB1.out HB1.out.size h2
  have h74 : True ∧ (i < ks.length ∨ i = ks.length) := ⟨trivial, by omega⟩
  rcases h74.2 with hlt | hend
  case' inl =>
    obtain ⟨ad, e, hcell⟩ := Kd.at_int HCW.out i (by omega) (by omega)
    have HE := Aside0.mk e
    rw [rd_map ks i hlt, Int.toNat_natCast] at hcell
    have HHD := hd_drop ks i hlt
    have hlt' : decide ((i : Int) < (ks.length : Int)) = true := by simp; omega
    have hv8 := HKS.out _ (List.getElem_mem hlt)
    generalize ks[i] = hv at *
    have HH : Aside0 (Gm.hd (ks.drop i) = hv) := ⟨by rw [HHD]; rfl⟩
    have HNE : Aside0 ((ks.drop i).isEmpty = false) := ⟨by rw [HHD]; rfl⟩
    clear HHD
    have HV0 : Aside0 (hv = hv) := ⟨rfl⟩
    by_cases h0 : hv = 0
    case pos =>
      subst h0
      go_wp2
      refine ends false _ _ _ rfl ?_ HM.out HS.out.below
      have := HR.out
      rw [Gm.run_succ, HNE.out, HH.out] at this
      simpa using this.symm
    case' neg =>
      have h0' : ((hv : Int) == 0) = false := by simp; omega
      have HZ : Aside0 ((!(ks.drop i).isEmpty && Gm.hd (ks.drop i) == 0) = false) := ⟨by rw [HH.out]; simp [h0]⟩
      go_wp2
      clear e
  case' inr =>
    have hlt' : decide ((i : Int) < (ks.length : Int)) = false := by simp; omega
    obtain ⟨hv, hv0⟩ : ∃ hv : Nat, hv = 0 := ⟨0, rfl⟩
    have hv8 : hv < 256 := by omega
    have HH : Aside0 (Gm.hd (ks.drop i) = hv) := ⟨by rw [hend, List.drop_length, hv0]; rfl⟩
    have HZ : Aside0 ((!(ks.drop i).isEmpty && Gm.hd (ks.drop i) == 0) = false) := ⟨by rw [hend, List.drop_length]; rfl⟩
    have HV0 := Aside0.mk hv0
    have hge : ks.length ≤ i := by omega
    clear hv0 hend hlt'
    go_wp2
  all_goals
    refine wp_loop_ghost_k (fun k2 a wr => ∃ (A' : Option Addr) (s : List Nat) (v : Value) (ds : List Deferred), Aside0 (A' = A) ∧ (a.tmps.size = 74 ∧ a.defers = ds ∧ a.tmps.getD 0 undef = .slice A' ks.length c ∧ a.tmps.getD 2 undef = .bool false ∧ a.tmps.getD 3 undef = .pointer (some ⟨g, 0, none⟩) ∧ a.tmps.getD 4 undef = .pointer (some ⟨sb, 0, none⟩) ∧ a.tmps.getD 5 undef = .int .i64 (i : Int) ∧ a.tmps.getD 6 undef = .int .u8 (hv : Int)) ∧ Aside0 (AccSt w1 wr sb v s) ∧ Aside0 (Marks w1.heap.size ds wr) ∧ Aside0 (Gm.run k2 s (ks.drop i) = some b) ∧ s.length + 4 * k2 ≤ 8796093022208 ∧ k2 ≤ kq + 1) (kq + 1) ⟨_, s, v, ds, ⟨by first | rfl | exact HE.out.symm⟩, ⟨rfl, rfl, rfl, rfl, rfl, rfl, rfl, by first | rfl | (rw [HV0.out]; rfl)⟩, HS, HM, HR, hlk, Nat.le_refl _⟩ ?_
    clear HS HM HR HCW hlk
    intro k2 a wr2 hI2 J2 KK2 hJ2 hKK2
    obtain ⟨A', s, v, ds, HA, ⟨hsz, hds, e0, e2, e3, e4, e5, e6⟩, HS, HM, HR, hlk, hkq⟩ := hI2
    obtain ⟨us, ha, hu⟩ := lit74 a hsz
    rw [hds, hu 0 |>.trans e0, hu 2 |>.trans e2, hu 3 |>.trans e3, hu 4 |>.trans e4, hu 5 |>.trans e5, hu 6 |>.trans e6] at ha
    subst ha
    clear hsz hds e0 e2 e3 e4 e5 e6 hu
    obtain ⟨k2, rfl⟩ : ∃ q, k2 = q + 1 := by
      cases k2 with
      | zero => exact absurd HR.out (by simp [Gm.run])
      | succ q => exact ⟨q, rfl⟩
    have hbc := HS.out.box.cell
    have hbf := blk_frozen HS.out.box 0
    cases s with
    | nil =>
      obtain ⟨ao, co, rfl, _⟩ := own_reads HS.out.row
      go_wp2
      rw [Exit.noGoto_ret]
      refine ends _ _ _ _ rfl ?_ HM.out HS.out.below
      have := HR.out
      rw [Gm.run_succ, if_neg (by rw [HZ.out]; decide)] at this
      rw [beq_cast, ← drop_isEmpty ks i hi]
      simpa using this.symm
    | cons x s =>
      have hl3 : s.length + 1 + 4 * (k2 + 1) ≤ 8796093022208 := hlk
      clear hlk
      have hl2 : s.length + 1 ≤ 8796093022208 := by omega
      have hx : x < 256 := ok_lt HS.out.ok x List.mem_cons_self
      have hro := HS.out.row
      rw [List.length_cons] at hro
      obtain ⟨q, cap, hvq, hq1, hq2, hcap⟩ := own_shape hro
      subst hvq
      have htop : wr2.cell? ⟨q, s.length, none⟩ = some (.int .u8 (x : Int)) := own_last hro
      have HRO := Aside0.mk hro
      clear hro
      have hkn := HK.out.below HS.out.below
      have hpart := hkn.part x hx
      have hgl : g < sb := by have := HK.out.lt; omega
      have hqs : q ≠ sb := fun e => own_ne HRO.out HS.out.box (by decide) (by rw [← e]; rfl)
      have HKN := Aside0.mk hkn
      clear hkn
      have HM3 : Aside0 (Marks w1.heap.size ds (wr2.setCell ⟨sb, 0, none⟩ (.slice (some ⟨q, 0, none⟩) s.length cap))) := ⟨HM.out.set HS.out.box 0 _⟩
      have HB3 : Aside0 (Below w1.heap.size w1 (wr2.setCell ⟨sb, 0, none⟩ (.slice (some ⟨q, 0, none⟩) s.length cap))) := ⟨HS.out.below.setCell (p := ⟨sb, 0, none⟩) (by show w1.heap.size ≤ sb; omega) _⟩
      have HS3 : Aside0 (AccSt w1 (wr2.setCell ⟨sb, 0, none⟩ (.slice (some ⟨q, 0, none⟩) s.length cap)) sb (.slice (some ⟨q, 0, none⟩) s.length cap) s) := ⟨⟨blk_set HS.out.box 0 _, own_setCell (ownsRow_pop (last := [.int .u8 (x : Int)]) (by simp [u8n, nums]) (by have := HRO.out; rwa [List.reverse_cons, u8n_snoc] at this)) (by simp [Value.ownBlock]; omega) _, HB3.out, fun y hy => HS.out.ok y (List.mem_cons_of_mem _ hy)⟩⟩
      by_cases hp : Gm.part x = true
      · go_wp2_with fail
        refine (choose_any _ g r B (HK.out.below HB3.out) x hv hx hv8).mono ?_
        rintro e w4 ⟨rfl, hb4⟩
        have HB4 := Aside0.mk hb4
        clear hb4
        have HB4' : Aside0 (Below w1.heap.size w1 w4) := ⟨below_then HB3.out HB3.out.size HB4.out⟩
        have HM4 := Aside0.mk (HM3.out.later HB4.out)
        cases hch : Gm.choose x hv with
        | none =>
          have HCH := Aside0.mk hch
          clear hch
          rw [show idx none = -1 from rfl]
          go_wp2
          rw [Exit.noGoto_ret]
          refine ends false _ _ _ rfl ?_ HM4.out HB4'.out
          have := HR.out
          rw [Gm.run_succ, if_neg (by rw [HZ.out]; decide)] at this
          simp only [hp, if_true, HH.out, HCH.out] at this
          simpa using this.symm
        | some n =>
          have HCH := Aside0.mk hch
          clear hch
          have hn := (Gm.choose_rule HCH.out).2
          have hkn4 := HK.out.below HB4'.out
          have htab := hkn4.tab
          have hrt := hkn4.rules.right n hn
          have HKN4 := Aside0.mk hkn4
          clear hkn4
          rw [show idx (some n) = (n : Int) from rfl]
          go_wp2_with fail
          refine (backward_any _ _ _ _).mono ?_
          rintro e w5 ⟨rfl, hw5⟩
          have HW5 := Aside0.mk hw5
          clear hw5
          have hsz5 : w5.heap.size = w4.heap.size + 1 := by rw [← HW5.out, World.size_alloc]
          have hb5 : Below w1.heap.size w1 w5 := by rw [← HW5.out]; exact HB4'.out.alloc HB4'.out.size _
          have hBs5 : w5.cell? ⟨w4.heap.size, 0, none⟩ = some (.slice (some ⟨B n, 0, none⟩) (nrule n).2.length (nrule n).2.length) := by rw [← HW5.out, blk_cell (heap_alloc_new _ _)]; rfl
          have hrow5 := fun j hj => (HK.out.below hb5).rules.sym n hn j hj
          have hBn5 : B n < w5.heap.size := blk_lt ((HK.out.below hb5).rules.row n hn)
          have hst5 : AccSt w1 w5 sb (.slice (some ⟨q, 0, none⟩) s.length cap) s := by
            have := (HS3.out.later HB4.out).alloc (.cells #[.slice (some ⟨B n, 0, none⟩) (nrule n).2.length (nrule n).2.length] 26)
            rw [HW5.out] at this; exact this
          have hm5 : Marks w1.heap.size ds w5 := by
            have := HM4.out.later ((Below.refl _ _).alloc (Nat.le_refl _) (.cells #[.slice (some ⟨B n, 0, none⟩) (nrule n).2.length (nrule n).2.length] 26))
            rw [HW5.out] at this; exact this
          have hsl := sl_len n hn
          have HB5 := Aside0.mk hb5
          have HBS5 := Aside0.mk hBs5
          have HROW5 := Aside0.mk hrow5
          have HST5 := Aside0.mk hst5
          have HOK := Aside0.mk HS.out.ok
          have hBn1 : B n < w1.heap.size := blk_lt (HK.out.rules.row n hn)
          have hq41 : w1.heap.size ≤ w4.heap.size := HB4'.out.size
          have hsb4 : sb < w4.heap.size := (HS3.out.later HB4.out).box.lt
          have HM5 := Aside0.mk hm5
          clear hb5 hBs5 hrow5 hst5 hm5 htab hrt hpart htop hbc hbf HB4 HB4' HM4 HKN4 HKN HS3 HM3 HB3 HRO HS HM
          go_wp2
          refine wp_frame (fun T hTs hT => ?_)
          have hTs : T.size = 74 := hTs
          obtain ⟨us', hT', hu'⟩ := lit74 ⟨T, ds⟩ hTs
          have u0 : us' 0 = .slice A' ks.length c := (hu' 0).trans (hT 0)
          have u2 : us' 2 = .bool false := (hu' 2).trans (hT 2)
          have u3 : us' 3 = .pointer (some ⟨g, 0, none⟩) := (hu' 3).trans (hT 3)
          have u4 : us' 4 = .pointer (some ⟨sb, 0, none⟩) := (hu' 4).trans (hT 4)
          have u5 : us' 5 = .int .i64 (i : Int) := (hu' 5).trans (hT 5)
          have u6 : us' 6 = .int .u8 (hv : Int) := (hu' 6).trans (hT 6)
          have u63 : us' 63 = .func (.func 48) #[] #[.pointer (some ⟨w4.heap.size, 0, none⟩)] := (hu' 63).trans (hT 63)
          rw [hT']
          clear hT hT' hu' hTs
          have U4 := Aside0.mk u4
          refine (wpIn_wide (n := 9)).1 ?_
          refine wpIn_rangeFunc_ownF rfl (by decide) (gf := 48) (lb := #[.pointer (some ⟨w4.heap.size, 0, none⟩)]) u63 trivial (enters_of Try.func48 (by kernel_rfl) rfl)
            (back_stops Fence.wide 8 trivial rfl (by decide) w4.heap.size (B n) (nrule n).2 (by omega) w5 (by omega) hBn5 HBS5.out HROW5.out) Two.t (Two.b (by omega) hBn5) (Below.refl _ _) (fun _ => rfl)
            (AccI w1 sb w4.heap.size (.slice (some ⟨B n, 0, none⟩) (nrule n).2.length (nrule n).2.length) s ds) (fun _ _ _ => False) (accI_own (by have := HB5.out.size; omega) (hm5lt HM5.out)) (fun _ _ _ _ _ hs _ _ => hs) ?h0
            (fun x => { tmps := #[us' 0, us' 1, us' 2, us' 3, us' 4, us' 5, us' 6, us' 7, us' 8, us' 9, .int .u8 (x.2 : Int), us' 11, us' 12, us' 13, us' 14, us' 15, us' 16, us' 17, us' 18, us' 19, us' 20, us' 21, us' 22, us' 23, us' 24, us' 25, us' 26, us' 27, us' 28, us' 29, us' 30, us' 31, us' 32, us' 33, us' 34, us' 35, us' 36, us' 37, us' 38, us' 39, us' 40, us' 41, us' 42, us' 43, us' 44, us' 45, us' 46, us' 47, us' 48, us' 49, us' 50, us' 51, us' 52, us' 53, us' 54, us' 55, us' 56, us' 57, us' 58, us' 59, us' 60, us' 61, us' 62, us' 63, .int .i64 (x.1 : Int), .int .u8 (x.2 : Int), us' 66, us' 67, us' 68, us' 69, us' 70, us' 71, us' 72, us' 73], defers := [] }) ?assign ?body ?done ?stop
          case h0 => exact ⟨⟨_, HST5.out.box, by simpa using HST5.out.row, trivial⟩, by rw [← HW5.out]; exact heap_alloc_new _ _, HB5.out, HM5.out⟩
          case assign =>
            clear u0 u2 u3 u4 u5 u6 u63
            intro l x W K hK
            gi_wp2
            exact hK
          case body =>
            rintro l pre x W ⟨⟨v, hbx, hrw, _⟩, hbs, hbl, hmk⟩ hlt
            have hbc := hbx.cell
            have hbf := hbx.frozen
            have HBX := Aside0.mk hbx
            have HRW := Aside0.mk hrw
            have HBL := Aside0.mk hbl
            have HMK := Aside0.mk hmk
            have HBSX := Aside0.mk hbs
            clear hbx hrw hbl hmk hbs u0 u2 u3 u5 u6 u63
            obtain ⟨i0, hi0, hz0, hz1, hz2⟩ := info_parts infoU8
            gi_wp2_with (gi_at_builtin; refine wpListIn_append_own _ rfl _ _ 26 rfl w1.heap.size 5 i0 (.int .u8 0) 1 1 Try.underlying26 hi0 hz0 hz1 hz2 rfl (by decide) _ _ _ rfl (HRW.out.alloc _) ⟨W.heap.size, 0, none⟩ 1 1 [.int .u8 (x.2 : Int)] rfl rfl (cell_one_new _ _ _) (by simp [Value.oneCell']) (by unfold maxLen; omega) (by omega) (by have := HBL.out.size; simp; omega) ?_; intro v' wa hown' hgrow _; obtain ⟨g', cap', rfl⟩ := ownsRow_succ hown'; obtain ⟨hv1, hv2, hr2, hk2, hb2⟩ := HBX.out.appended (by decide) HRW.out HBL.out.size (by omega) hown' hgrow; have hc1 := hv1.cell; have hf1 := hv1.frozen)
            have hne : some w4.heap.size ≠ v.ownBlock := Boxed.not_row HBSX.out (by decide) HRW.out
            have hBnm : B n < W.heap.size := by have := HBL.out.size; omega
            have hbs2 : Boxed (wa.setCell ⟨sb, 0, none⟩ (.slice (some ⟨g', 0, none⟩) (s.length + pre.length + 1) cap')) w4.heap.size 26 (.slice (some ⟨B n, 0, none⟩) (nrule n).2.length (nrule n).2.length) :=
              (Below.heap_setCell wa ⟨sb, 0, none⟩ _ w4.heap.size (by show w4.heap.size ≠ sb; omega)).trans ((HBSX.out.alloc _).kept hgrow hne)
            refine ⟨hk2, ⟨hbs2.trans HBSX.out.symm, hb2.block _ hBn1⟩, ⟨_, hv2, ?_, trivial⟩, hbs2, below_then' HBL.out hb2, ?_⟩
            · rw [List.length_append, List.map_append, ← List.append_assoc, show List.map Prod.snd [x] = [x.2] from rfl, u8n_snoc]
              exact hr2
            · exact HMK.out.keep (fun D o hd hc => hk2.same D o hd hc)
          case done =>
            rintro D xs W hD rfl ⟨⟨v, hbx, hrw, _⟩, hbs, hbl, hmk⟩ hK
            go_wp2
            refine ⟨k2, by omega, hJ2 _ _ _ ⟨A', (nrule n).2 ++ s, v, _, HA, ⟨rfl, rfl, u0, u2, u3, u4, u5, u6⟩, ⟨⟨hbx, ?_, hbl, HOK.out.rule (Gm.choose_rule HCH.out).1⟩⟩, ⟨.cons (by have := HB5.out.size; omega) hK hmk (fun d hd r hr e => by have := hm5lt HM5.out d hd r hr; omega)⟩, ⟨?_⟩, by rw [List.length_append]; omega, by omega⟩⟩
            · rw [back_snd, upto_length] at hrw
              rw [List.length_append, List.reverse_append, Nat.add_comm]
              exact hrw
            · have := HR.out
              rw [Gm.run_succ, if_neg (by rw [HZ.out]; decide)] at this
              simp only [hp, if_true, HH.out, HCH.out] at this
              exact this
          case stop =>
            rintro D c pre W _ _ h _
            exact h.elim
      · have hp' : Gm.part x = false := by simpa using hp
        have hx1 : 1 ≤ x := by
          rcases HS.out.ok x List.mem_cons_self with h | h
          · rw [hp'] at h; cases h
          · exact h.1
        by_cases hxh : x = hv
        · have ht : ((x : Int) != (hv : Int)) = false := by rw [bne_eq_false_iff_eq]; omega
          have HXH := Aside0.mk hxh
          clear hxh
          go_wp2
          first
            | (exfalso; have := HXH.out; have := HV0.out; omega)
            | (refine ⟨k2, by omega, hJ _ _ _ ⟨i + 1, s, _, ds, ⟨rfl, rfl, by rw [← HA.out]; rfl, rfl, rfl, rfl, ?_⟩, by omega, HS3, HM3, ⟨?_⟩, by omega⟩⟩
               · go_num
               · have := HR.out
                 rw [Gm.run_succ, if_neg (by rw [HZ.out]; decide)] at this
                 simp only [hp', Bool.false_eq_true, if_false, HH.out] at this
                 rw [if_pos (by simpa using HXH.out), List.tail_drop] at this
                 exact this)
        · have ht : ((x : Int) != (hv : Int)) = true := by rw [bne_iff_ne]; omega
          have HXH := Aside0.mk hxh
          clear hxh
          go_wp2
          rw [Exit.noGoto_ret]
          refine ends false _ _ _ rfl ?_ HM3.out HB3.out
          have := HR.out
          rw [Gm.run_succ, if_neg (by rw [HZ.out]; decide)] at this
          simp only [hp', Bool.false_eq_true, if_false, HH.out] at this
          rw [if_neg (by simpa using HXH.out)] at this
          simpa using this.symm
end Go.Proofs.Ytlliokmcfmcigaa.GR
