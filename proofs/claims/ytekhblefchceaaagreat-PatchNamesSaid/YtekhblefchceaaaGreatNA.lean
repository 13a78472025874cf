/- Joined: N1, N2, N3, N4. -/
import Derived.Test.YtekhblefchceaaaGreatCB
import Derived.Test.YtekhblefchceaaaGreatM26
import Derived.Test.YtekhblefchceaaaGreatSh1
set_option linter.unusedVariables false
set_option linter.unusedSimpArgs false
/- What the interpreter is given for the closed statement. -/
set_option linter.unusedVariables false
set_option linter.unusedSectionVars false
namespace Go.Proofs.YtekhblefchceaaaGreat.AM
open Go Go.Proofs
variable {P : Program} {σ : St}

section
variable {n : Nat} {π : Nat → Nat} (hπ : ∀ β, β < n → π β = β)
include hπ
theorem ren_bndT {t : Tok} (h : bndT n t = true) : t.ren π = t := by
  cases t with
  | id τ => simp only [bndT, Nat.blt_eq] at h; simp only [Tok.ren, hπ τ h]
  | _ => rfl
mutual
theorem ren_bndV : ∀ {x : AV}, bndV n x = true → x.ren π = x
  | .ptr β _, h => by simp only [bndV, Nat.blt_eq] at h; simp only [AV.ren, hπ β h]
  | .hs β _ _ _, h => by simp only [bndV, Nat.blt_eq] at h; simp only [AV.ren, hπ β h]
  | .map β, h => by simp only [bndV, Nat.blt_eq] at h; simp only [AV.ren, hπ β h]
  | .yld β, h => by simp only [bndV, Nat.blt_eq] at h; simp only [AV.ren, hπ β h]
  | .vs l t, h => by simp only [bndV, Bool.and_eq_true] at h; simp only [AV.ren, ren_bndL h.2, ren_bndT hπ h.1]
  | .bs _ t, h => by simp only [bndV] at h; simp only [AV.ren, ren_bndT hπ h]
  | .ip l, h => by simp only [bndV] at h; simp only [AV.ren, ren_bndL h]
  | .fn _ l, h => by simp only [bndV] at h; simp only [AV.ren, ren_bndL h]
  | .agg l, h => by simp only [bndV] at h; simp only [AV.ren, ren_bndL h]
  | .tup l, h => by simp only [bndV] at h; simp only [AV.ren, ren_bndL h]
  | .undef, _ => rfl
  | .bool _, _ => rfl
  | .int _ _, _ => rfl
  | .str _, _ => rfl
  | .nilp, _ => rfl
  | .nilmap, _ => rfl
  | .nilfn, _ => rfl
  | .nilif, _ => rfl
theorem ren_bndL : ∀ {l : List AV}, bndL n l = true → renL π l = l
  | [], _ => rfl
  | x :: l, h => by simp only [bndL, Bool.and_eq_true] at h; simp only [renL, ren_bndV h.1, ren_bndL h.2]
end
end
theorem ren_bndE {n : Nat} {π : Nat → Nat} (hπ : ∀ β, β < n → π β = β) : ∀ {es : List MEnt}, bndE n es = true → es.map (MEnt.ren π) = es
  | [], _ => rfl
  | e :: r, h => by
    simp only [bndE, Bool.and_eq_true] at h
    simp only [List.map_cons, ren_bndE hπ h.2, MEnt.ren, ren_bndV hπ h.1.1, ren_bndV hπ h.1.2]
theorem ren_bndB {n : Nat} {π : Nat → Nat} (hπ : ∀ β, β < n → π β = β) {b : Blk} (h : bndB n b = true) : b.ren π = b := by
  cases b with
  | arr c => simp only [bndB] at h; simp only [Blk.ren, ← renL_eq, ren_bndL hπ h]
  | tok => rfl
  | map es ck => simp only [bndB] at h; simp only [Blk.ren, ren_bndE hπ h]
  | iter m ck seen => simp only [bndB, Nat.blt_eq] at h; simp only [Blk.ren, hπ m h]
  | loop st pend ρ ps asg body => simp only [bndB] at h; simp only [Blk.ren, ← renL_eq, ren_bndL hπ h]
theorem VW.sub {v : AV} {σ : St} (H' : List (Nat × Blk)) (hs : ∀ β b, lk H' β = some b → lk σ.H β = some b) : VW P v σ v ⟨H', σ.n⟩ := fun g w cv r h =>
  let ⟨r', e'⟩ := rel_drop (P := P) H' σ.n (Nat.le_refl _) r hs
  ⟨g, r', VR.evo e' h, e'⟩

/-- A new list of free slots. -/
def flNewSt (n gens : Nat) (σ : St) : St :=
  ⟨(σ.n + 3, .arr [.hs σ.n 0 n n, .hs (σ.n + 1) 0 n n, .hs (σ.n + 2) 0 n n, .int .u64 gens]) :: (σ.n + 2, .arr (List.replicate n (.int .u64 1))) :: (σ.n + 1, .arr (List.replicate n (.int .u8 0))) :: (σ.n, .arr (stk n n)) :: σ.H, σ.n + 4⟩

theorem ren_ints (π : Nat → Nat) (n : Nat) (k : IntKind) (x : Int) : (List.replicate n (AV.int k x)).map (AV.ren π) = List.replicate n (.int k x) := by
  rw [List.map_replicate]; rfl
theorem ren_stk (π : Nat → Nat) (n i : Nat) : (stk n i).map (AV.ren π) = stk n i := by
  simp only [stk, List.map_map]
  rfl

theorem flnew_det (n gens : Nat) (h1 : 1 ≤ n) (h2 : n ≤ 16384) (g1 : 1 ≤ gens) (g2 : gens ≤ 4294967295) (hb : bndH σ.n σ.H = true) :
    ACalls Tryz.prog 81 [.int .i64 n, .int .u64 gens] σ (fun v σ' => v = .tup [.ptr (σ.n + 3) 0, .int .i64 0] ∧ σ' = flNewSt n gens σ) := by
  have h := (flnew_ok (σ := σ) n gens h1 h2 g1 g2).ren (K' := fun v σ' => v = .tup [.ptr (σ.n + 3) 0, .int .i64 0] ∧ σ'.n = σ.n + 4 ∧ ∀ β b, lk (flNewSt n gens σ).H β = some b → lk σ'.H β = some b) ?_
  · refine h.weak fun v σ' hv => ?_
    obtain ⟨rfl, hn, hl⟩ := hv
    refine ⟨_, _, VW.sub (flNewSt n gens σ).H hl, rfl, ?_⟩
    rw [hn]; rfl
  · rintro v σ' ⟨b1, b2, b3, rfl, ⟨l0, l1, l2, l3⟩, hc, hE, hn⟩
    let π : Nat → Nat := fun x => if x = b1 then σ.n else if x = b2 then σ.n + 1 else if x = b3 then σ.n + 2 else x
    let κ : Nat → Nat := fun x => if x = σ.n then b1 else if x = σ.n + 1 then b2 else if x = σ.n + 2 then b3 else x
    have p3 : π (σ.n + 3) = σ.n + 3 := by simp only [π]; (repeat' split) <;> omega
    have pb1 : π b1 = σ.n := if_pos rfl
    have pb2 : π b2 = σ.n + 1 := (if_neg (by omega)).trans (if_pos rfl)
    have pb3 : π b3 = σ.n + 2 := (if_neg (by omega)).trans ((if_neg (by omega)).trans (if_pos rfl))
    have pl : ∀ β, β < σ.n → π β = β := fun β hβ => (if_neg (by omega)).trans ((if_neg (by omega)).trans (if_neg (by omega)))
    have ex : Exch π κ σ'.n := by
      refine ⟨fun x => ?_, fun x => ?_, fun x hx => ?_⟩
      · simp only [π, κ]; (repeat' split) <;> omega
      · simp only [π, κ]; (repeat' split) <;> omega
      · rw [hn] at hx ⊢; simp only [π]; (repeat' split) <;> omega
    refine ⟨π, κ, ex, fun x hx => by simp only [κ]; (repeat' split) <;> omega, by simp only [AV.ren, renL, p3], hn, fun β b hβ => ?_⟩
    show lk (renH π σ'.H) β = some b
    rw [lk_ren ex]
    simp only [flNewSt, lk] at hβ
    split at hβ
    · rename_i e; subst e
      have : κ (σ.n + 3) = σ.n + 3 := by simp only [κ]; (repeat' split) <;> omega
      rw [this, l0, ← hβ]
      simp only [Option.map_some, Blk.ren, List.map_cons, List.map_nil, AV.ren, pb1, pb2, pb3]
    split at hβ
    · rename_i e; subst e
      have : κ (σ.n + 2) = b3 := (if_neg (by omega)).trans ((if_neg (by omega)).trans (if_pos rfl))
      rw [this, l3, ← hβ]
      simp only [Option.map_some, Blk.ren, ren_ints]
    split at hβ
    · rename_i e; subst e
      have : κ (σ.n + 1) = b2 := (if_neg (by omega)).trans (if_pos rfl)
      rw [this, l2, ← hβ]
      simp only [Option.map_some, Blk.ren, ren_ints]
    split at hβ
    · rename_i e; subst e
      have : κ σ.n = b1 := if_pos rfl
      rw [this, l1, ← hβ]
      simp only [Option.map_some, Blk.ren, ren_stk]
    · obtain ⟨b1', b2'⟩ := bndH_lk hb hβ
      have : κ β = β := by simp only [κ]; (repeat' split) <;> omega
      rw [this, hE.2 β b1', hβ]
      simp only [Option.map_some, ren_bndB pl b2']

end Go.Proofs.YtekhblefchceaaaGreat.AM

/- The interpreter of the given program. -/
set_option linter.unusedVariables false
namespace Go.Proofs.YtekhblefchceaaaGreat.AM
open Go Go.Proofs
variable {σ : St}

def prim81 (args : List AV) (σ : St) : Option (List (AV × St)) :=
  match args with
  | [.int .i64 (.ofNat n), .int .u64 (.ofNat g)] =>
    match Nat.ble 1 n && Nat.ble n 16384 && Nat.ble 1 g && Nat.ble g 4294967295 && bndH σ.n σ.H with
    | true => some [(.tup [.ptr (σ.n + 3) 0, .int .i64 0], flNewSt n g σ)]
    | false => none
  | _ => none
def prim256 (args : List AV) (σ : St) : Option (List (AV × St)) :=
  match args with
  | [.str s] =>
    match Nat.ble s.length 1099511627776 with
    | true => some [((msOf s).av, σ)]
    | false => none
  | _ => none
def primN (n : Nat) (args : List AV) (σ : St) : Option (List (AV × St)) :=
  match Nat.beq n 256 with
  | true => prim256 args σ
  | false => match Nat.beq n 81 with
    | true => prim81 args σ
    | false => none
theorem primN_ok : ∀ n args σ xs, primN n args σ = some xs → xs ≠ [] → ACalls Tryz.prog n args σ (fun v σ' => (v, σ') ∈ xs) := by
  intro n args σ xs h _
  unfold primN at h
  split at h
  · rename_i e
    rw [Nat.eq_of_beq_eq_true e]
    unfold prim256 at h
    split at h
    · rename_i s
      split at h
      · rename_i hl
        simp only [Option.some.injEq] at h; subst h
        refine (of_st s (Nat.le_of_ble_eq_true hl)).mono fun v σ' hv => ?_
        obtain ⟨rfl, rfl⟩ := hv
        exact List.mem_singleton.2 rfl
      · cases h
    · cases h
  · split at h
    · rename_i e
      rw [Nat.eq_of_beq_eq_true e]
      unfold prim81 at h
      split at h
      · rename_i n g
        split at h
        · rename_i hl
          simp only [Bool.and_eq_true] at hl
          obtain ⟨⟨⟨⟨a, b⟩, c⟩, d⟩, e⟩ := hl
          simp only [Option.some.injEq] at h; subst h
          refine (flnew_det n g (Nat.le_of_ble_eq_true a) (Nat.le_of_ble_eq_true b) (Nat.le_of_ble_eq_true c) (Nat.le_of_ble_eq_true d) e).mono fun v σ' hv => ?_
          obtain ⟨rfl, rfl⟩ := hv
          exact List.mem_singleton.2 rfl
        · cases h
      · cases h
    · cases h

/-- The calls that make what outlives them. -/
def keepsN (n : Nat) : Bool := [19, 22, 35, 47, 59, 81, 94, 98, 104, 114, 115, 116, 118, 175, 176, 179, 180, 181, 221].any (Nat.beq n)
def frzN (n : Nat) : Option (Bool × Nat) := if n = 218 then some (false, 1) else if n = 166 then some (false, 1) else if n = 155 then some (false, 1) else if n = 169 then some (true, 7) else none
def tightN (n : Nat) : Bool := [11, 17, 24, 25, 44, 53, 57].any (Nat.beq n)
noncomputable def CN : Cfg := { F := look tab, prim := primN, hint := hints, keeps := keepsN, frz := frzN, tight := tightN, lf := 1000 }
theorem run_ok {d n : Nat} {args : List AV} {xs : List (AV × St)} (h : go CN d (.f n) args σ = some xs) : ACalls Tryz.prog n args σ (fun v σ' => (v, σ') ∈ xs) := go_sound CN hmix tab_ok primN_ok d (.f n) args σ xs h

end Go.Proofs.YtekhblefchceaaaGreat.AM

/- strings.Repeat, by the kit's contract. -/
set_option linter.unusedVariables false
namespace Go.Proofs.YtekhblefchceaaaGreat.AM
open Go Go.Proofs Go.RowKit
variable {P : Program} {σ : St}

theorem rel_below {g : Gh} {h h' : Heap} (r : Rel P g σ h) (hs : h.size ≤ h'.size) (hb : ∀ k, k < h.size → h'[k]? = h[k]?) : Rel P g σ h' ∧ Evo g σ h g σ h' := by
  have hcs : ∀ b i v, hc h b i = some v → hc h' b i = some v := by
    intro b i v hv
    have hlt := hc_lt hv
    unfold hc at hv ⊢
    rw [hb b hlt]; exact hv
  have hic : ∀ b i v, IC g σ.H h b i v → IC g σ.H h' b i v := fun b i v hi => ⟨hcs b i v hi.1, hi.2⟩
  refine ⟨⟨r.lt, r.inj, fun β k hk => ?_⟩, Nat.le_refl _, g.le_refl _, hic, fun b o hd => ⟨?_, hd.2⟩, hs, fun b c e z hc => ⟨c, ?_, rfl⟩⟩
  · have hbk := r.blk β k hk
    rw [hb _ hbk.lt]
    exact hbk.mono (Nat.le_refl _) (g.le_refl _) (r.lt β k hk) hic
  · rw [hb b (Array.getElem?_eq_some_iff.1 hd.1).1]; exact hd.1
  · rw [hb b (Array.getElem?_eq_some_iff.1 hc).1]; exact hc

theorem ACalls.of_below {f : Nat} {args : List AV} {X : AV} {cX : Value} (hok : CallOk P f) (hX : ∀ (g : Gh) (w : World), VRs g σ w X cX)
    (h : ∀ (g : Gh) (w : World) (cargs : List Value), Rel P g σ w.heap → VRL g σ w args cargs → Calls P f cargs.toArray w (fun e w' => e = .returned cX ∧ Below w.heap.size w w')) : ACalls P f args σ (fun v σ' => v = X ∧ σ' = σ) :=
  ⟨hok, ⟨X, σ, rfl, rfl⟩, fun g w cargs r hl => by
    have h1 := (callsIn_wide (n := 0)).2 (h g w cargs r hl)
    refine CallsIn.mono h1 fun e w' hp => ?_
    obtain ⟨rfl, hb⟩ := hp
    obtain ⟨r', e'⟩ := rel_below r hb.size hb.block
    exact ⟨X, σ, g, ⟨rfl, rfl⟩, r', hX g w', ⟨e', hb.os, hb.output⟩⟩⟩

theorem repeat_ok (s : List UInt8) (c : Nat) (hl : s.length * c ≤ 140737488355328) (hc : c ≤ 9223372036854775807) : ACalls Tryz.prog 27 [.str s, .int .i64 c] σ (fun v σ' => v = .str (Lib.repeatL s c) ∧ σ' = σ) := by
  refine ACalls.of_below (cX := .string ⟨(Lib.repeatL s c).toArray⟩) ⟨Tryz.f27, Tryz.func27, by kernel_rfl, by kernel_rfl⟩ (fun g w => .str _) fun g w cargs r hv => ?_
  obtain ⟨h1, h2⟩ := hv
  match cargs, h1 with
  | [a, b], _ =>
    have ha := h2 0 _ a rfl rfl
    have hb := h2 1 _ b rfl rfl
    cases ha
    cases hb
    exact Tryz.strings_Repeat ⟨s.toArray⟩ c w hc (by simpa [ByteArray.size] using hl)

end Go.Proofs.YtekhblefchceaaaGreat.AM

/- Closed code in pieces: each piece from one written state to the next. -/
set_option linter.unusedVariables false
namespace Go.Proofs.YtekhblefchceaaaGreat.AM
open Go Go.Proofs
variable {σ : St}

noncomputable def goN : CallF := go CN 60
theorem goN_cs : CS Tryz.prog goN := go_sound CN hmix tab_ok primN_ok 60
def allSeg (L : List AV) (S : St) : Outc → Bool
  | [] => true
  | (.nrm, l, s) :: r => beqL l L && Nat.beq s.n S.n && beqH s.H S.H && allSeg L S r
  | _ => false
theorem allSeg_mem {L : List AV} {S : St} : ∀ {xs : Outc}, allSeg L S xs = true → ∀ p, p ∈ xs → p = (.nrm, L, S)
  | [], _, p, hp => by simp at hp
  | (.nrm, l, ⟨H, n⟩) :: r, h, p, hp => by
    simp only [allSeg, Bool.and_eq_true] at h
    rcases List.mem_cons.1 hp with rfl | hp
    · rw [beqL_eq h.1.1.1, beqH_eq h.1.2]
      have := Nat.eq_of_beq_eq_true h.1.1.2
      obtain ⟨H', n'⟩ := S
      simp only at this
      rw [this]
    · exact allSeg_mem h.2 p hp
  | (.ext i, l, s) :: r, h, p, hp => by simp [allSeg] at h
  | (.ret, l, s) :: r, h, p, hp => by simp [allSeg] at h
noncomputable def segB (call : CallF) (nt : Nat) (x : ACode) (L : List AV) (S : St) (L' : List AV) (S' : St) : Bool :=
  match execC call hints 1000 nt true x L S with
  | some xs => allSeg L' S' xs
  | none => false
theorem seg_go {call : CallF} (hc : CS Tryz.prog call) {nt : Nat} {x y : ACode} {Q : Ex → Env → St → Prop} {L L' : List AV} {S S' : St} (h : segB call nt x L S L' S' = true) (hr : AW Tryz.prog none nt y Q (vget L') S') : AW Tryz.prog none nt (.seq x y) Q (vget L) S := by
  unfold segB at h
  split at h
  · rename_i xs hx
    refine AW.seq (AW.mono (execC_sound hmix hc true none (fun _ => rfl) x L S xs hx) fun e ρ σ he => ?_)
    obtain ⟨l, rfl, hm⟩ := he
    have := allSeg_mem h _ hm
    simp only [Prod.mk.injEq] at this
    obtain ⟨rfl, rfl, rfl⟩ := this
    exact hr
  · cases h
noncomputable def allEnd (rs : List RV) : Outc → Bool
  | [] => true
  | p :: r => (match finish rs p with | some [(.bool true, _)] => true | _ => false) && allEnd rs r
noncomputable def endB (call : CallF) (nt : Nat) (rs : List RV) (x : ACode) (L : List AV) (S : St) : Bool :=
  match execC call hints 1000 nt true x L S with
  | some xs => allEnd rs xs
  | none => false
theorem allEnd_mem {rs : List RV} : ∀ {xs : Outc}, allEnd rs xs = true → ∀ p, p ∈ xs → ∃ s, finish rs p = some [(.bool true, s)]
  | p :: r, h, q, hq => by
    simp only [allEnd, Bool.and_eq_true] at h
    rcases List.mem_cons.1 hq with rfl | hq
    · have h1 := h.1
      split at h1
      · rename_i s hs; exact ⟨s, hs⟩
      · cases h1
    · exact allEnd_mem h.2 q hq
theorem end_go {call : CallF} (hc : CS Tryz.prog call) {nt : Nat} {rs : List RV} {x : ACode} {L : List AV} {S : St} (h : endB call nt rs x L S = true) : AW Tryz.prog none nt x (FPost rs (fun v _ => v = .bool true)) (vget L) S := by
  unfold endB at h
  split at h
  · rename_i xs hx
    refine AW.mono (execC_sound hmix hc true none (fun _ => rfl) x L S xs hx) fun e ρ σ he => ?_
    obtain ⟨l, rfl, hm⟩ := he
    obtain ⟨s, hs⟩ := allEnd_mem h _ hm
    cases e with
    | ext i => simp [finish] at hs
    | nrm =>
      simp only [finish] at hs
      split at hs
      · cases hs
      · rename_i r hr
        simp only [Option.some.injEq, List.cons.injEq, Prod.mk.injEq, and_true] at hs
        exact ⟨r, hr, hs.1⟩
    | ret =>
      simp only [finish] at hs
      split at hs
      · cases hs
      · rename_i r hr
        simp only [Option.some.injEq, List.cons.injEq, Prod.mk.injEq, and_true] at hs
        exact ⟨r, hr, hs.1⟩
  · cases h

/-! ### Calls whose answers are known -/
structure Orc where
  n : Nat
  args : List AV
  S : St
  v : AV
  S' : St
def Orc.ok (o : Orc) : Prop := ACalls Tryz.prog o.n o.args o.S (fun v σ' => v = o.v ∧ σ' = o.S')
def findO : List Orc → Nat → List AV → St → Option (List (AV × St))
  | [], _, _, _ => none
  | o :: r, n, args, σ => match Nat.beq o.n n && Nat.beq σ.n o.S.n && beqL args o.args && beqH σ.H o.S.H with
    | true => some [(o.v, o.S')]
    | false => findO r n args σ
theorem findO_ok : ∀ {l : List Orc} {n : Nat} {args : List AV} {σ : St} {xs : List (AV × St)}, (∀ o, o ∈ l → o.ok) → findO l n args σ = some xs → ACalls Tryz.prog n args σ (fun v σ' => (v, σ') ∈ xs)
  | o :: r, n, args, ⟨H, m⟩, xs, hl, h => by
    simp only [findO] at h
    split at h
    · rename_i hb
      simp only [Bool.and_eq_true] at hb
      obtain ⟨⟨⟨b1, b2⟩, b3⟩, b4⟩ := hb
      simp only [Option.some.injEq] at h; subst h
      have ho := hl o (by simp)
      have e1 := Nat.eq_of_beq_eq_true b1
      have e2 := Nat.eq_of_beq_eq_true b2
      have e3 := beqL_eq b3
      have e4 := beqH_eq b4
      obtain ⟨on, oa, ⟨oH, om⟩, ov, oS⟩ := o
      simp only at e1 e2 e3 e4
      subst e1 e2 e3 e4
      refine ACalls.mono ho fun v σ' hv => ?_
      obtain ⟨rfl, rfl⟩ := hv
      exact List.mem_singleton.2 rfl
    · exact findO_ok (fun o ho => hl o (by simp [ho])) h
abbrev Prims := Nat → List AV → St → Option (List (AV × St))
def orcP (l : List Orc) (p : Prims) : Prims := fun n args σ => match findO l n args σ with
  | some x => some x
  | none => p n args σ
noncomputable def cfgP (p : Prims) : Cfg := { F := look tab, prim := p, hint := hints, keeps := keepsN, frz := frzN, tight := tightN, lf := 1000 }
noncomputable def goP (p : Prims) : CallF := go (cfgP p) 60
def PrimsOk (p : Prims) : Prop := ∀ n args σ xs, p n args σ = some xs → xs ≠ [] → ACalls Tryz.prog n args σ (fun v σ' => (v, σ') ∈ xs)
theorem orcP_ok {l : List Orc} {p : Prims} (hl : ∀ o, o ∈ l → o.ok) (hp : PrimsOk p) : PrimsOk (orcP l p) := fun n args σ xs h hne => by
  unfold orcP at h
  split at h
  · rename_i x hx
    simp only [Option.some.injEq] at h; subst h
    exact findO_ok hl hx
  · exact hp n args σ xs h hne
theorem goP_cs {p : Prims} (hp : PrimsOk p) : CS Tryz.prog (goP p) := go_sound (cfgP p) hmix tab_ok hp 60
def allO (v : AV) (S : St) : List (AV × St) → Bool
  | [] => true
  | (u, s) :: r => beqV u v && Nat.beq s.n S.n && beqH s.H S.H && allO v S r
noncomputable def orcB (call : CallF) (o : Orc) : Bool :=
  match call (.f o.n) o.args o.S with
  | some xs => allO o.v o.S' xs
  | none => false
theorem allO_mem {v : AV} {S : St} : ∀ {xs : List (AV × St)}, allO v S xs = true → ∀ p, p ∈ xs → p = (v, S)
  | [], _, p, hp => by simp at hp
  | (u, ⟨H, n⟩) :: r, h, p, hp => by
    simp only [allO, Bool.and_eq_true] at h
    rcases List.mem_cons.1 hp with rfl | hp
    · have := Nat.eq_of_beq_eq_true h.1.1.2
      obtain ⟨H', n'⟩ := S
      have e := beqH_eq h.1.2
      simp only at this e
      rw [beqV_eq h.1.1.1, e, this]
    · exact allO_mem h.2 p hp
theorem orc_go {p : Prims} (hp : PrimsOk p) {o : Orc} (h : orcB (goP p) o = true) : o.ok := by
  unfold orcB at h
  split at h
  · rename_i xs hx
    refine ACalls.mono (goP_cs hp (.f o.n) o.args o.S xs hx) fun v σ' hv => ?_
    have := allO_mem h _ hv
    simp only [Prod.mk.injEq] at this
    exact this
  · cases h

end Go.Proofs.YtekhblefchceaaaGreat.AM

