/- Joined: M12, M13, M14, M15, M16, M17, M18, M19. -/
import Derived.Test.YtekhblefchceaaaGreatMB
import Derived.OrdersIn
import Derived.RangeFuncIn
import Derived.RangeFuncLeaves
import Derived.RangeFuncRecord
import Derived.KernelRfl
import Derived.Laws.Bits64
import Derived.IntWalk
set_option linter.unusedVariables false
set_option linter.unusedSimpArgs false
/- Every operation of the abstract machine is the model's. -/
namespace Go.Proofs.YtekhblefchceaaaGreat.AM
open Go
variable {P : Program} {g : Gh} {σ : St} {w : World}
def evc (tm : Array Value) : Operand -> Value
  | .tmp t => tm.getD t Go.undef
  | .const v => v
  | .global g => .pointer (some ⟨g, 0, none⟩)
  | .func f => .func (.func f) #[] #[]
structure ER (g : Gh) (σ : St) (w : World) (nt : Nat) (ρ : Env) (tm : Array Value) : Prop where
  size : tm.size = nt
  vr : ∀ i, i < nt -> VRs g σ w (ρ i) (tm.getD i Go.undef)
theorem cOpd_vr {nt : Nat} {ρ : Env} {tm : Array Value} (er : ER g σ w nt ρ tm) {x : Operand} {y : Opd} (h : cOpd nt x = some y) : VRs g σ w (y.ev ρ) (evc tm x) := by
  cases x with
  | tmp t =>
    simp only [cOpd] at h
    split at h
    · rename_i ht; simp at h; subst h; exact er.vr t ht
    · simp at h
  | const v =>
    simp only [cOpd, Option.map_eq_some_iff] at h
    obtain ⟨a, h1, rfl⟩ := h
    exact vr_valAV h1 _ _ _
  | global _ => simp [cOpd] at h
  | func f =>
    simp only [cOpd, Option.some.injEq] at h
    subst h
    exact .fn f [] #[] rfl (fun i x c h => by simp at h)
def VRL (g : Gh) (σ : St) (w : World) (l : List AV) (cs : List Value) : Prop := l.length = cs.length /\ ∀ (i : Nat) (x : AV) (c : Value), l[i]? = some x -> cs[i]? = some c -> VRs g σ w x c
theorem cOpd_nil {nt : Nat} {ρ : Env} {tm : Array Value} {x : Operand} {y : Opd} (h : cOpd nt x = some y) (hy : y.isNil = true) : y.ev ρ = .vs [] .ex /\ evc tm x = .slice none 0 0 := by
  cases x with
  | tmp t =>
    simp only [cOpd] at h
    split at h
    · simp at h; subst h; simp [Opd.isNil] at hy
    · simp at h
  | const v =>
    simp only [cOpd, Option.map_eq_some_iff] at h
    obtain ⟨a, h1, rfl⟩ := h
    unfold Opd.isNil at hy
    split at hy
    · rename_i e
      cases e
      refine ⟨rfl, ?_⟩
      unfold valAV at h1
      split at h1
      · rw [Option.map_eq_some_iff] at h1
        obtain ⟨l, _, h2⟩ := h1
        simp at h2
      · unfold valSc at h1
        split at h1 <;> simp at h1
        rfl
    · simp at hy
  | global _ => simp [cOpd] at h
  | func f => simp [cOpd] at h; subst h; simp [Opd.isNil] at hy
theorem cOpds_vr {nt : Nat} {ρ : Env} {tm : Array Value} (er : ER g σ w nt ρ tm) : ∀ {xs : List Operand} {ys : List Opd}, cOpds nt xs = some ys -> VRL g σ w (ys.map (·.ev ρ)) (xs.map (evc tm))
  | [], ys, h => by simp [cOpds] at h; subst h; exact ⟨rfl, fun i x c h => by simp at h⟩
  | x :: xs, ys, h => by
    simp only [cOpds] at h
    split at h
    · rename_i y l h1 h2
      simp at h; subst h
      obtain ⟨i1, i2⟩ := cOpds_vr er h2
      refine ⟨by simpa using i1, fun i a c ha hc => ?_⟩
      cases i with
      | zero => simp at ha hc; subst ha; subst hc; exact cOpd_vr er h1
      | succ i => exact i2 i a c (by simpa using ha) (by simpa using hc)
    · simp at h
theorem cOpdO_vr {nt : Nat} {ρ : Env} {tm : Array Value} (er : ER g σ w nt ρ tm) {x : Option Operand} {y : Option Opd} (h : cOpdO nt x = some y) : OVR g σ w ρ y (x.map (evc tm)) := by
  cases x with
  | none => simp [cOpdO] at h; subst h; exact .none
  | some x =>
    simp only [cOpdO, Option.map_eq_some_iff] at h
    obtain ⟨y', h1, rfl⟩ := h
    exact .some y' _ (cOpd_vr er h1)
def GoodN (P : Program) (g : Gh) (σ : St) (w : World) (res : Result Next) (v : AV) (σ' : St) : Prop :=
  ∃ nx cv w' g', res = .ok nx w' /\ (nx = .value cv \/ (nx = .skip /\ cv = Go.undef)) /\ Rel P g' σ' w'.heap /\ VRs g' σ' w' v cv /\ EvoW g σ w g' σ' w'
def CallOk (P : Program) (f : Nat) : Prop := ∃ fn, P.funcs[f]? = some fn /\ (fn.name == "runtime.NumGoroutine") = false /\ fn.body.isSome = true
def SoundR (P : Program) (g : Gh) (σ : St) (w : World) (res : Result Next) : OR -> Prop
  | .v v σ' => GoodN P g σ w res v σ'
  | .any l => ∃ p ∈ l, GoodN P g σ w res p.1 p.2
  | .call f args => ∃ cargs : List Value, VRL g σ w args cargs /\ (CallOk P f -> res = .ok (.enter f cargs.toArray) w)
  | .yld β args => β < σ.n /\ ∃ cargs : List Value, VRL g σ w args cargs /\ res = (Instr.yield (g.bl β) cargs.toArray).run P w
  | .bad => True
theorem vr_nil (g : Gh) (σ : St) (w : World) : VRs g σ w (.tup []) Go.undef := .tup [] #[] rfl (fun i x c h => by simp at h)
theorem good_n {s : Sem Value} {v : AV} {σ' : St} (h : Good P g σ w (s.run P w) v σ') : GoodN P g σ w ((do pure (.value (<- s)) : Sem Next).run P w) v σ' := by
  obtain ⟨cv, w', g', hr, h1, h2, h3⟩ := h
  refine ⟨.value cv, cv, w', g', ?_, .inl rfl, h1, h2, h3⟩
  simp only [Sem.run_bind, hr, Result.andThen_ok, Sem.run_pure]
theorem goodU_n {s : Sem Unit} {σ' : St} (h : GoodU P g σ w (s.run P w) σ') : GoodN P g σ w ((do s; pure .skip : Sem Next).run P w) (.tup []) σ' := by
  obtain ⟨w', g', hr, h1, h2⟩ := h
  refine ⟨.skip, Go.undef, w', g', ?_, .inr ⟨rfl, rfl⟩, h1, vr_nil _ _ _, h2⟩
  simp only [Sem.run_bind, hr, Result.andThen_ok, Sem.run_pure]
def det : AOp -> Bool
  | .next _ | .eqnil _ _ | .call _ _ | .callv _ _ => false
  | _ => true
theorem evalOp_det (ρ : Env) (σ : St) : ∀ a : AOp, det a = true -> (∃ v σ', evalOp ρ σ a = .v v σ') \/ evalOp ρ σ a = .bad := by
  intro a ha
  cases a <;> first | (simp [det] at ha; done) | skip
  all_goals
    simp only [evalOp]
    repeat' split
    all_goals first | exact .inr rfl | exact .inr trivial | exact .inl ⟨_, _, rfl⟩
theorem sound_det {a : AOp} {ρ : Env} {res : Result Next} (hd : det a = true) (h : ∀ v σ', evalOp ρ σ a = .v v σ' -> GoodN P g σ w res v σ') : SoundR P g σ w res (evalOp ρ σ a) := by
  rcases evalOp_det ρ σ a hd with ⟨v, σ', he⟩ | he
  · rw [he]; exact h v σ' he
  · rw [he]; trivial
variable {nt : Nat} {ρ : Env} {tm : Array Value} {o : Oper}
theorem zeroAV_run {t : TypeId} {z : AV} (h : zeroAVOf P t = some z) : ∃ zv, (zeroValue t).run P w = .ok zv w /\ VRs g σ w z zv := by
  unfold zeroAVOf at h
  cases hi : P.info? t with
  | none => simp [hi] at h
  | some i =>
    cases hz : i.zero with
    | none => simp [hi, hz] at h
    | some v =>
      simp only [hi, hz] at h
      exact ⟨v, by simp [zeroValue, typeInfo, hi, hz], vr_valAV h _ _ _⟩
theorem os_move {x : Operand} (r : Rel P g σ w.heap) (er : ER g σ w nt ρ tm) {y : Opd} (hy : cOpd nt x = some y) (hop : o.op = .move x \/ o.op = .assign x) :
    SoundR P g σ w ((execOp (evc tm) o).run P w) (evalOp ρ σ (.mv y)) := by
  refine sound_det rfl fun v σ' he => ?_
  simp only [evalOp, OR.v.injEq] at he
  obtain ⟨rfl, rfl⟩ := he
  refine ⟨.value _, _, w, g, ?_, .inl rfl, r, cOpd_vr er hy, EvoW.refl _ _ _⟩
  rcases hop with h | h <;> simp [execOp, h]
theorem os_pick {c a b : Operand} (r : Rel P g σ w.heap) (er : ER g σ w nt ρ tm) {c' a' b' : Opd} (hc : cOpd nt c = some c') (ha : cOpd nt a = some a') (hb : cOpd nt b = some b') (hop : o.op = .pick c a b) :
    SoundR P g σ w ((execOp (evc tm) o).run P w) (evalOp ρ σ (.pick c' a' b')) := by
  refine sound_det rfl fun v σ' he => ?_
  have hvc := cOpd_vr er hc
  simp only [evalOp] at he
  generalize c'.ev ρ = cv at *
  generalize hcc : evc tm c = cc at *
  cases hvc <;> try (simp at he; done)
  rename_i t
  simp only [OR.v.injEq] at he
  obtain ⟨rfl, rfl⟩ := he
  refine ⟨.value (if t then evc tm a else evc tm b), _, w, g, ?_, .inl rfl, r, ?_, EvoW.refl _ _ _⟩
  · simp [execOp, hop, hcc, asBool]
  · cases t
    · exact cOpd_vr er hb
    · exact cOpd_vr er ha
theorem parts_vr (er : ER g σ w nt ρ tm) {t : TypeId} (place : Nat -> Option (Nat × Nat))
    (hplace : ∀ i off s, (match P.underlying t with | some (.struct _) => (fieldOf P t i).map (fun q => (q.1, q.2.2)) | some (.array _ e) => (szOf P e).map (fun s => (i * s, s)) | _ => none) = some (off, s) -> place i = some (off, s)) :
    ∀ {xs : List (Nat × Operand)} {ys : List (Nat × Nat × Opd)}, cBuild P nt t xs = some ys -> PVR g σ w ρ place (xs.map fun (i, x) => (i, evc tm x)) ys
  | [], ys, h => by simp [cBuild] at h; subst h; exact .nil
  | (i, x) :: xs, ys, h => by
    simp only [cBuild] at h
    split at h
    · rename_i y l h1 h2
      have ih := parts_vr er place hplace h2
      split at h
      · rename_i fs hu
        split at h
        · rename_i off ft s hf
          simp at h; subst h
          exact .cons (hplace i off s (by simp only [hu]; rw [hf]; rfl)) (cOpd_vr er h1) ih
        · simp at h
      · rename_i n e hu
        split at h
        · rename_i s hs
          simp at h; subst h
          exact .cons (hplace i (i * s) s (by simp only [hu]; rw [hs]; rfl)) (cOpd_vr er h1) ih
        · simp at h
      · simp at h
    · simp at h
theorem cLit_vr (er : ER g σ w nt ρ tm) : ∀ {xs : List (Nat × Operand)} {ys : List Opd} {k : Nat}, cLit nt k xs = some ys ->
    xs.length = ys.length /\ ∀ (i : Nat) (y : Opd) (p : Nat × Value), ys[i]? = some y -> (xs.map fun (i, x) => (i, evc tm x))[i]? = some p -> p.1 = k + i /\ VRs g σ w (y.ev ρ) p.2
  | [], ys, k, h => by simp [cLit] at h; subst h; exact ⟨rfl, fun i y p h => by simp at h⟩
  | (j, x) :: xs, ys, k, h => by
    simp only [cLit] at h
    split at h
    · rename_i hj
      split at h
      · rename_i y l h1 h2
        simp at h; subst h
        obtain ⟨i1, i2⟩ := cLit_vr er h2
        refine ⟨by simp [i1], fun i y' p hy hp => ?_⟩
        cases i with
        | zero => simp at hy hp; subst hy; subst hp; exact ⟨by simpa using hj, cOpd_vr er h1⟩
        | succ i =>
          have := i2 i y' p (by simpa using hy) (by simpa using hp)
          exact ⟨by omega, this.2⟩
      · simp at h
    · simp at h
theorem aggOf_kinds {t : TypeId} (h : (∃ fs, P.underlying t = some (.struct fs)) \/ (∃ n e, P.underlying t = some (.array n e))) : aggOf P t = some true := by
  unfold aggOf
  rcases h with ⟨fs, h⟩ | ⟨n, e, h⟩ <;> rw [h]
theorem valAV_nil {v : Value} (h : valAV v = some (.vs [] .ex)) : v = .slice none 0 0 := by
  have h2 : valSc v = some (.vs [] .ex) := by
    cases v <;> first
      | exact h
      | (simp [valAV] at h; done)
  unfold valSc at h2
  split at h2 <;> simp at h2
  rfl
theorem run_binOp_form {op : BinOp} {t ty2 : TypeId} {X Y : Operand} (hop : o.op = .binOp op t X Y ty2) :
    (execOp (evc tm) o).run P w = ((do pure (.value (<- (do eqGuard op t X Y (evc tm X) (evc tm Y); binOp op t (evc tm X) (evc tm Y) : Sem Value))) : Sem Next).run P w) := by
  simp only [execOp, hop]
theorem os_eqv {op : BinOp} {t ty2 : TypeId} {X Y : Operand} {x y : Opd} {neg : Bool} {kd : EK} (r : Rel P g σ w.heap) (er : ER g σ w nt ρ tm) (hx : cOpd nt X = some x) (hop : o.op = .binOp op t X Y ty2)
    (hop2 : eqOp op = some neg) (hrun : ∀ q, eqK kd (x.ev ρ) (y.ev ρ) = some q -> ∀ d, (Op.equalIn (d + 1) t (evc tm X) (evc tm Y)).run P w = .ok q w) :
    SoundR P g σ w ((execOp (evc tm) o).run P w) (evalOp ρ σ (.eqv kd neg x y)) := by
  refine sound_det rfl fun v σ' he => ?_
  simp only [evalOp] at he
  split at he
  · rename_i q hq
    simp only [OR.v.injEq] at he
    obtain ⟨rfl, rfl⟩ := he
    rw [run_binOp_form hop]
    exact good_n (Good.pure r (snd_eqv (cOpd_vr er hx) hop2 hq (hrun q hq)) (.bool _))
  · simp at he
theorem os_binOp {op : BinOp} {t ty2 : TypeId} {X Y : Operand} (r : Rel P g σ w.heap) (er : ER g σ w nt ρ tm) (hop : o.op = .binOp op t X Y ty2) :
    SoundR P g σ w ((execOp (evc tm) o).run P w) (evalOp ρ σ (cOp P nt o)) := by
  unfold cOp
  cases hc : cOp? P nt o with
  | none => trivial
  | some a =>
    simp only [Option.getD_some]
    simp only [cOp?, hop] at hc
    split at hc
    case h_2 => simp at hc
    rename_i x y hx hy
    have vx := cOpd_vr er hx
    have vy := cOpd_vr er hy
    have hbin : a = .bin op x y -> SoundR P g σ w ((execOp (evc tm) o).run P w) (evalOp ρ σ a) := by
      intro ha; subst ha
      refine sound_det rfl fun v σ' he => ?_
      simp only [evalOp] at he
      split at he
      · rename_i v' hv
        simp only [OR.v.injEq] at he
        obtain ⟨rfl, rfl⟩ := he
        obtain ⟨cv, h1, h2⟩ := snd_bin (P := P) (t := t) (X := X) (Y := Y) vx vy hv
        rw [run_binOp_form hop]
        exact good_n (Good.pure r h1 h2)
      · simp at he
    split at hc
    · simp at hc; exact hbin hc.symm
    · simp at hc; exact hbin hc.symm
    · rename_i hu
      simp only [Option.map_eq_some_iff] at hc
      obtain ⟨neg, hn, rfl⟩ := hc
      exact os_eqv r er hx hop hn (fun q hq d => eqIn_bool vx vy hu hq d)
    · rename_i ps rs va hu
      simp only [Option.map_eq_some_iff] at hc
      obtain ⟨neg, hn, rfl⟩ := hc
      exact os_eqv r er hx hop hn (fun q hq d => eqIn_fn vx vy hu hq d)
    · rename_i kt et hu
      simp only [Option.map_eq_some_iff] at hc
      obtain ⟨neg, hn, rfl⟩ := hc
      exact os_eqv r er hx hop hn (fun q hq d => eqIn_map vx vy hu hq d)
    · rename_i e hu
      split at hc
      · rename_i hs
        simp only [Option.map_eq_some_iff] at hc
        obtain ⟨neg, hn, rfl⟩ := hc
        obtain ⟨s, hs'⟩ : ∃ s, szOf P e = some s := by
          cases h : szOf P e with
          | none => simp [h] at hs
          | some s => exact ⟨s, rfl⟩
        exact os_eqv r er hx hop hn (fun q hq d => eqIn_ptr vx vy hu hs' (by simpa [hs'] using hs) hq d)
      · simp at hc
    · rename_i e hu
      have nilc : ∀ neg, (neg = false /\ op = .eql) \/ (neg = true /\ op = .neq) -> y = .c (.vs [] .ex) -> a = .eqnil neg x -> SoundR P g σ w ((execOp (evc tm) o).run P w) (evalOp ρ σ a) := by
        intro neg hneg hyc ha
        subst ha; subst hyc
        have hY : evc tm Y = .slice none 0 0 := by
          cases Y with
          | tmp t => simp only [cOpd] at hy; split at hy <;> simp at hy
          | const v =>
            simp only [cOpd, Option.map_eq_some_iff, Opd.c.injEq] at hy
            obtain ⟨z, hz, hz2⟩ := hy
            subst hz2
            exact valAV_nil hz
          | global _ => simp [cOpd] at hy
          | func f => simp [cOpd] at hy
        have hrun : ∀ (b : Option Addr) (l c : Nat), evc tm X = .slice b l c -> (execOp (evc tm) o).run P w = .ok (.value (.bool (b.isNone != neg))) w := by
          intro b l c hX
          rw [run_binOp_form hop, hX, hY]
          have he : (Op.equal t (.slice b l c) (.slice none 0 0)).run P w = .ok b.isNone w := by
            refine run_equal fun d => ?_
            cases b <;> simp [Op.equalIn, run_under hu]
          have hg : (eqGuard op t X Y (.slice b l c) (.slice none 0 0)).run P w = .ok () w := run_eqGuard_one rfl (by simp)
          rcases hneg with ⟨rfl, rfl⟩ | ⟨rfl, rfl⟩
          · simp only [Sem.run_bind, hg, Result.andThen_ok, binOp, he, Sem.run_pure]; cases b <;> rfl
          · simp only [Sem.run_bind, hg, Result.andThen_ok, binOp, he, Sem.run_pure]; cases b <;> rfl
        have fin : ∀ (b : Option Addr) (l c : Nat), evc tm X = .slice b l c -> GoodN P g σ w ((execOp (evc tm) o).run P w) (.bool (b.isNone != neg)) σ := by
          intro b l c hX
          exact ⟨_, _, w, g, hrun b l c hX, .inl rfl, r, .bool _, EvoW.refl _ _ _⟩
        simp only [evalOp]
        generalize hcx : evc tm X = cx at vx
        generalize x.ev ρ = xv at *
        cases vx <;> try trivial
        · -- nil
          have := fin none 0 0 hcx
          refine ⟨(.bool (!neg), σ), ?_, by simpa using this⟩
          cases neg <;> simp
        · rename_i l tk b off cap sz cs h1 h2 h3 h4 h5
          have := fin (some ⟨b, off, none⟩) l.length cap hcx
          cases l with
          | nil =>
            refine ⟨(.bool neg, σ), ?_, by simpa using this⟩
            cases neg <;> simp
          | cons e l => show GoodN _ _ _ _ _ _ _; simpa using this
        · rename_i β off len cap hβ
          have := fin (some ⟨g.bl β, off, none⟩) len cap hcx
          show GoodN _ _ _ _ _ _ _
          simpa using this
      split at hc
      · simp at hc; exact nilc false (.inl ⟨rfl, rfl⟩) rfl hc.symm
      · simp at hc; exact nilc true (.inr ⟨rfl, rfl⟩) rfl hc.symm
      · simp at hc
    all_goals first
      | (simp at hc; done)
      | skip
    all_goals
      rename_i hu
      split at hc
      · rename_i ks hk
        split at hc
        · simp at hc
        · rename_i hg
          simp only [Option.map_eq_some_iff] at hc
          obtain ⟨neg, hn, rfl⟩ := hc
          refine sound_det rfl fun v σ' he => ?_
          simp only [evalOp] at he
          generalize hcx : evc tm X = cx at vx
          generalize hcy : evc tm Y = cy at vy
          generalize x.ev ρ = xv at *
          generalize y.ev ρ = yv at *
          cases vx <;> try (simp at he; done)
          rename_i l xs h1 h2
          cases vy <;> try (simp at he; done)
          rename_i m ys h3 h4
          simp only at he
          split at he
          · rename_i hlen
            split at he
            · rename_i q hq
              simp only [OR.v.injEq] at he
              obtain ⟨rfl, rfl⟩ := he
              have hag : aggOf P t = some true := aggOf_kinds (by first | exact .inl ⟨_, hu⟩ | exact .inr ⟨_, _, hu⟩)
              rw [run_binOp_form hop, hcx, hcy]
              exact good_n (Good.pure r (snd_eqagg (.agg l xs h1 h2) (.agg m ys h3 h4) hn hk (by simpa using hg) hag hlen.1 hlen.2 hq) (.bool _))
            · simp at he
          · simp at he
      · simp at hc
end Go.Proofs.YtekhblefchceaaaGreat.AM

/- Every operation of the abstract machine is the model's: the whole table. -/
namespace Go.Proofs.YtekhblefchceaaaGreat.AM
open Go
variable {P : Program} {g : Gh} {σ : St} {w : World} {nt : Nat} {ρ : Env} {tm : Array Value} {o : Oper}
theorem callFunc_ok {f : Nat} {args : Array Value} (h : CallOk P f) : (callFunc f args).run P w = .ok (.enter f args) w := by
  obtain ⟨fn, h1, h2, h3⟩ := h
  have h4 : fn.body.isNone = false := by cases hb : fn.body with | none => simp [hb] at h3 | some _ => rfl
  simp only [callFunc, Sem.run_bind, run_program, Result.andThen_ok, h1, h2, Bool.false_eq_true, if_false, h4, Sem.run_pure]
theorem run_call_value {c : Call} {x : Operand} {f : Nat} {first cap : Array Value} (hop : o.op = .call c) (hc : c.callee = .value x) (hx : evc tm x = .func (.func f) first cap) :
    (execOp (evc tm) o).run P w = (callFunc f (first ++ c.args.map (evc tm) ++ cap)).run P w := by
  simp [execOp, hop, resolve, hc, hx, Deferred.ofValue, invoke]
theorem run_call_yield {c : Call} {x : Operand} {l : Nat} (hop : o.op = .call c) (hc : c.callee = .value x) (hx : evc tm x = .func (.yield l) #[] #[]) :
    (execOp (evc tm) o).run P w = (Instr.yield l (c.args.map (evc tm))).run P w := by
  simp [execOp, hop, resolve, hc, hx, Deferred.ofValue, invoke]
theorem run_call_builtin {c : Call} {b : Builtin} (hop : o.op = .call c) (hc : c.callee = .builtin b) :
    ∃ consts, (execOp (evc tm) o).run P w = (builtin b c.argTypes o.type consts (c.args.map (evc tm))).run P w :=
  ⟨_, by simp only [execOp, hop, resolve, hc, Sem.run_bind, Sem.run_pure, Result.andThen_ok, invoke]; rfl⟩
theorem snd_min {x y : AV} {a b : Value} {v : AV} {σ' : St} {ats : Array TypeId} {ty : TypeId} {ρ : Env} {X Y : Opd} (hX : X.ev ρ = x) (hY : Y.ev ρ = y) (r : Rel P g σ w.heap) (hx : VRs g σ w x a) (hy : VRs g σ w y b)
    (he : evalOp ρ σ (.min X Y) = .v v σ') : Good P g σ w ((Builtin.min_ ats ty #[a, b]).run P w) v σ' := by
  simp only [evalOp, hX, hY] at he
  cases hx <;> try (cases hy <;> simp at he; done)
  rename_i k i
  cases hy <;> try (simp at he; done)
  rename_i k' j
  simp only at he
  split at he
  · simp only [OR.v.injEq] at he
    obtain ⟨rfl, rfl⟩ := he
    refine Good.pure r ?_ (.int _ _)
    simp [Builtin.min_, Builtin.min2]
  · simp at he
theorem args1 {args : Array Operand} {x : Opd} (er : ER g σ w nt ρ tm) (h : cOpds nt args.toList = some [x]) : ∃ X, args = #[X] /\ VRs g σ w (x.ev ρ) (evc tm X) := by
  obtain ⟨h1, h2⟩ := cOpds_vr er h
  have hl : args.toList.length = 1 := by simpa using h1.symm
  match hm : args.toList, hl with
  | [X], _ =>
    refine ⟨X, Array.toList_inj.1 hm, ?_⟩
    rw [hm] at h2
    exact h2 0 _ _ rfl rfl
theorem args2 {args : Array Operand} {x y : Opd} (er : ER g σ w nt ρ tm) (h : cOpds nt args.toList = some [x, y]) : ∃ X Y, args = #[X, Y] /\ VRs g σ w (x.ev ρ) (evc tm X) /\ VRs g σ w (y.ev ρ) (evc tm Y) := by
  obtain ⟨h1, h2⟩ := cOpds_vr er h
  have hl : args.toList.length = 2 := by simpa using h1.symm
  match hm : args.toList, hl with
  | [X, Y], _ =>
    refine ⟨X, Y, Array.toList_inj.1 hm, ?_⟩
    rw [hm] at h2
    exact ⟨h2 0 _ _ rfl rfl, h2 1 _ _ rfl rfl⟩
theorem append_types {ats : Array TypeId} {t u ty : TypeId} {args : Array Value} (h0 : ats[0]? = some t) (h1 : ats[1]? = some u) : Builtin.append_ ats ty args = Builtin.append_ #[t, u] ty args := by
  simp [Builtin.append_, h0, h1]
theorem copy_types {ats : Array TypeId} {t ty : TypeId} {args : Array Value} (h0 : ats[0]? = some t) : Builtin.copy_ ats ty args = Builtin.copy_ #[t, t] ty args := by
  simp [Builtin.copy_, h0]
theorem delete_types {ats : Array TypeId} {t ty : TypeId} {args : Array Value} (h0 : ats[0]? = some t) : Builtin.delete_ ats ty args = Builtin.delete_ #[t, t] ty args := by
  simp [Builtin.delete_, h0]
theorem os_call {c : Call} (r : Rel P g σ w.heap) (er : ER g σ w nt ρ tm) (hop : o.op = .call c) : SoundR P g σ w ((execOp (evc tm) o).run P w) (evalOp ρ σ (cOp P nt o)) := by
  unfold cOp
  cases hc : cOp? P nt o with
  | none => trivial
  | some a =>
    simp only [Option.getD_some]
    simp only [cOp?, hop, cCall] at hc
    split at hc
    · simp at hc
    rename_i args hargs
    have hvl := cOpds_vr er hargs
    split at hc
    · -- a function by its name
      rename_i f hcal
      simp only [Option.some.injEq] at hc; subst hc
      simp only [evalOp]
      refine ⟨c.args.toList.map (evc tm), hvl, fun hok => ?_⟩
      rw [run_call_value (f := f) (first := #[]) (cap := #[]) hop hcal rfl, callFunc_ok hok]
      congr 2
      apply Array.ext'
      simp
    · rename_i x _ hcal
      simp only [Option.map_eq_some_iff] at hc
      obtain ⟨y, hy, rfl⟩ := hc
      have vy := cOpd_vr er hy
      simp only [evalOp]
      generalize hcx : evc tm x = cx at vy
      generalize y.ev ρ = yv at *
      cases vy <;> try trivial
      · rename_i f l cs hl h
        refine ⟨c.args.toList.map (evc tm) ++ cs.toList, ?_, fun hok => ?_⟩
        · obtain ⟨h1, h2⟩ := hvl
          refine ⟨by simp only [List.length_append]; rw [h1]; simp [hl], fun i a b ha hb => ?_⟩
          by_cases hi : i < (args.map (·.ev ρ)).length
          · rw [List.getElem?_append_left hi] at ha
            rw [List.getElem?_append_left (by omega)] at hb
            exact h2 i a b ha hb
          · rw [List.getElem?_append_right (by omega)] at ha
            rw [List.getElem?_append_right (by omega), <- h1] at hb
            exact h _ a b ha (by simpa using hb)
        · rw [run_call_value (f := f) (first := #[]) (cap := cs) hop hcal hcx, callFunc_ok hok]
          congr 2
          apply Array.ext'
          simp
      · rename_i β hβ
        refine ⟨hβ, c.args.toList.map (evc tm), hvl, ?_⟩
        rw [run_call_yield hop hcal hcx]
        congr 2
        apply Array.ext'
        simp
    · simp at hc
    · rename_i b hcal
      obtain ⟨consts, hrb⟩ := run_call_builtin (P := P) (w := w) (tm := tm) hop hcal
      split at hc
      · -- len
        rename_i x t h0
        obtain ⟨X, hX, vX⟩ := args1 er hargs
        have hm : c.args.map (evc tm) = #[evc tm X] := by rw [hX]; simp
        have key : ∀ k, LKty P t k ->
            SoundR P g σ w ((execOp (evc tm) o).run P w) (evalOp ρ σ (.len k x)) := by
          intro k hk
          refine sound_det rfl fun v σ' he => ?_
          rw [hrb, hm]
          exact good_n (snd_len r vX h0 hk he)
        split at hc <;> simp at hc
        · subst hc; rename_i hu; exact key .s hu
        · subst hc; rename_i hu; exact key .l ⟨_, hu⟩
        · subst hc; rename_i hu; exact key .m ⟨_, _, hu⟩
      · -- min
        rename_i x y t h0
        simp only [Option.some.injEq] at hc; subst hc
        obtain ⟨X, Y, hX, vX, vY⟩ := args2 er hargs
        have hm : c.args.map (evc tm) = #[evc tm X, evc tm Y] := by rw [hX]; simp
        refine sound_det rfl fun v σ' he => ?_
        rw [hrb, hm]
        exact good_n (snd_min rfl rfl r vX vY he)
      · -- delete
        rename_i m k t h0
        split at hc
        · rename_i kt et hu
          simp only [Option.map_eq_some_iff] at hc
          obtain ⟨ck, hck, rfl⟩ := hc
          obtain ⟨X, Y, hX, vX, vY⟩ := args2 er hargs
          have hm : c.args.map (evc tm) = #[evc tm X, evc tm Y] := by rw [hX]; simp
          refine sound_det rfl fun v σ' he => ?_
          rw [hrb, hm]
          show GoodN P g σ w ((do pure (.value (<- Builtin.delete_ c.argTypes o.type #[evc tm X, evc tm Y])) : Sem Next).run P w) v σ'
          rw [delete_types h0]
          exact good_n (snd_del r vX vY hu hck he)
        · simp at hc
      · -- copy
        rename_i d s t h0
        split at hc
        · rename_i e hu
          split at hc
          case h_2 => simp at hc
          rename_i sz hsz
          split at hc
          case isFalse => simp at hc
          rename_i hs0
          simp only [Option.some.injEq] at hc; subst hc
          obtain ⟨X, Y, hX, vX, vY⟩ := args2 er hargs
          have hm : c.args.map (evc tm) = #[evc tm X, evc tm Y] := by rw [hX]; simp
          refine sound_det rfl fun v σ' he => ?_
          rw [hrb, hm]
          show GoodN P g σ w ((do pure (.value (<- Builtin.copy_ c.argTypes o.type #[evc tm X, evc tm Y])) : Sem Next).run P w) v σ'
          rw [copy_types h0]
          exact good_n (snd_copy r vX vY hu hsz hs0 he)
        · simp at hc
      · -- append
        rename_i s x t h0
        obtain ⟨X, Y, hX, vX, vY⟩ := args2 er hargs
        have hm : c.args.map (evc tm) = #[evc tm X, evc tm Y] := by rw [hX]; simp
        have hsome : ∀ (z : Option (List AV)), z.isSome = true -> ∃ q, z = some q := fun z hz => by cases z with | none => simp at hz | some q => exact ⟨q, rfl⟩
        split at hc
        · rename_i e hu hu2
          obtain ⟨u, h1, hu2⟩ := Option.bind_eq_some_iff.1 hu2
          split at hc
          · rename_i i hi
            split at hc
            · rename_i hcond
              simp only [Option.some.injEq] at hc; subst hc
              refine sound_det rfl fun v σ' he => ?_
              rw [hrb, hm]
              show GoodN P g σ w ((do pure (.value (<- Builtin.append_ c.argTypes o.type #[evc tm X, evc tm Y])) : Sem Next).run P w) v σ'
              rw [append_types h0 h1]
              exact good_n (snd_appb r vX vY hu hu2 hi (hsome _ hcond.2.2.1) hcond.1 hcond.2.1 hcond.2.2.2 he)
            · simp at hc
          · simp at hc
        · rename_i e e' hu hu2
          obtain ⟨u, h1, hu2⟩ := Option.bind_eq_some_iff.1 hu2
          split at hc
          · rename_i i ag s' hi hag hs'
            split at hc
            · rename_i hcond
              simp only [Option.some.injEq] at hc; subst hc
              refine sound_det rfl fun v σ' he => ?_
              rw [hrb, hm]
              show GoodN P g σ w ((do pure (.value (<- Builtin.append_ c.argTypes o.type #[evc tm X, evc tm Y])) : Sem Next).run P w) v σ'
              rw [append_types h0 h1]
              exact good_n (snd_app r vX vY hu hu2 hi (hsome _ hcond.2.2) hcond.2.1 he)
            · simp at hc
          · simp at hc
        · simp at hc
      · simp at hc
theorem op_sound (r : Rel P g σ w.heap) (er : ER g σ w nt ρ tm) : SoundR P g σ w ((execOp (evc tm) o).run P w) (evalOp ρ σ (cOp P nt o)) := by
  cases hop : o.op with
  | binOp op t x y ty => exact os_binOp r er hop
  | call c => exact os_call r er hop
  | move x =>
    unfold cOp
    cases hx : cOpd nt x with
    | none => simp [cOp?, hop, hx, SoundR, evalOp]
    | some y => simp only [cOp?, hop, hx, Option.map_some, Option.getD_some]; exact os_move r er hx (.inl hop)
  | assign x =>
    unfold cOp
    cases hx : cOpd nt x with
    | none => simp [cOp?, hop, hx, SoundR, evalOp]
    | some y => simp only [cOp?, hop, hx, Option.map_some, Option.getD_some]; exact os_move r er hx (.inr hop)
  | pick c a b =>
    unfold cOp
    cases hc : cOp? P nt o with
    | none => trivial
    | some q =>
      simp only [cOp?, hop] at hc
      split at hc
      · rename_i c' a' b' h1 h2 h3
        simp only [Option.some.injEq] at hc; subst hc
        exact os_pick r er h1 h2 h3 hop
      · simp at hc
  | alloc t =>
    unfold cOp
    cases hc : cOp? P nt o with
    | none => trivial
    | some q =>
      simp only [cOp?, hop, Option.map_eq_some_iff] at hc
      obtain ⟨z, hz, rfl⟩ := hc
      rw [Option.getD_some]
      unfold allocOf
      split
      · refine sound_det rfl fun v σ' he => ?_
        simp only [evalOp, OR.v.injEq] at he
        obtain ⟨rfl, rfl⟩ := he
        have := good_n (snd_allocT (P := P) (w := w) r hz)
        simpa only [execOp, hop] using this
      · refine sound_det rfl fun v σ' he => ?_
        simp only [evalOp, OR.v.injEq] at he
        obtain ⟨rfl, rfl⟩ := he
        have := good_n (snd_alloc (P := P) (w := w) r hz)
        simpa only [execOp, hop] using this
  | box t x =>
    unfold cOp
    cases hc : cOp? P nt o with
    | none => trivial
    | some q =>
      simp only [cOp?, hop] at hc
      split at hc
      · rename_i s y hs hy
        simp only [Option.some.injEq] at hc; subst hc
        refine sound_det rfl fun v σ' he => ?_
        simp only [Option.getD_some, evalOp] at he
        split at he
        · rename_i h
          simp only [OR.v.injEq] at he
          obtain ⟨rfl, rfl⟩ := he
          have := good_n (snd_box (P := P) (w := w) (t := t) r (cOpd_vr er hy) h)
          simpa only [execOp, hop] using this
        · simp at he
      · simp at hc
  | build t parts =>
    unfold cOp
    cases hc : cOp? P nt o with
    | none => trivial
    | some q =>
      simp only [cOp?, hop] at hc
      split at hc
      · rename_i z l hag hz hl
        split at hc
        · rename_i hok
          simp only [Option.some.injEq] at hc; subst hc
          refine sound_det rfl fun v σ' he => ?_
          simp only [Option.getD_some] at he
          let place : Nat -> Option (Nat × Nat) := fun i => match P.underlying t with
            | some (.struct _) => (fieldOf P t i).map (fun q => (q.1, q.2.2)) | some (.array _ e) => (szOf P e).map (fun s => (i * s, s)) | _ => none
          have hp := parts_vr (P := P) er (t := t) place (fun i off s h => h) hl
          have := good_n (snd_build (P := P) (w := w) (t := t) (parts := parts.map fun (i, x) => (i, evc tm x)) (place := place) r hz hok (fun i off s h => by
            simp only [place] at h
            split at h
            · rename_i fs hu
              simp only [Option.map_eq_some_iff, Prod.mk.injEq] at h
              obtain ⟨⟨o', ft, s'⟩, hf, rfl, rfl⟩ := h
              obtain ⟨fs', fd, hu', hfd, h1, h2, h3⟩ := fieldOf_some hf
              subst h2
              exact .inl ⟨fs', fd, hu', hfd, h1, h3⟩
            · rename_i n e hu
              simp only [Option.map_eq_some_iff, Prod.mk.injEq] at h
              obtain ⟨s', hs, rfl, rfl⟩ := h
              exact .inr ⟨n, e, hu, hs, rfl⟩
            · simp at h) (by simpa using hp) he)
          simpa only [execOp, hop] using this
        · simp at hc
      · simp at hc
  | buildSlice t len parts =>
    unfold cOp
    cases hc : cOp? P nt o with
    | none => trivial
    | some q =>
      simp only [cOp?, hop] at hc
      split at hc
      · rename_i e hu
        split at hc
        · rename_i s l hs hl
          split at hc
          · rename_i h
            simp only [Option.some.injEq] at hc; subst hc
            refine sound_det rfl fun v σ' he => ?_
            simp only [Option.getD_some] at he
            obtain ⟨h1, h2⟩ := cLit_vr er hl
            have := good_n (snd_lit (P := P) (w := w) (t := t) (parts := parts.map fun (i, x) => (i, evc tm x)) r hu hs h.2.1 h.1 h.2.2.1
              (by cases hz : zeroCellsOf P e with | none => simp [hz] at h | some z => exact ⟨z, rfl⟩) (by simpa using h1) (fun i y p a b => by
                have := h2 i y p a (by simpa using b)
                exact ⟨by omega, this.2⟩) he)
            simpa only [execOp, hop] using this
          · simp at hc
        · simp at hc
      · simp at hc
  | load t x =>
    unfold cOp
    cases hc : cOp? P nt o with
    | none => trivial
    | some q =>
      simp only [cOp?, hop] at hc
      split at hc
      · rename_i ag s y hag hs hy
        simp only [Option.some.injEq] at hc; subst hc
        refine sound_det rfl fun v σ' he => ?_
        simp only [Option.getD_some] at he
        have := good_n (snd_load (P := P) (w := w) (t := t) rfl r (cOpd_vr er hy) hag hs he)
        simpa only [execOp, hop] using this
      · simp at hc
  | store t x y =>
    unfold cOp
    cases hc : cOp? P nt o with
    | none => trivial
    | some q =>
      simp only [cOp?, hop] at hc
      split at hc
      · rename_i s a b hs ha hb
        simp only [Option.some.injEq] at hc; subst hc
        refine sound_det rfl fun v σ' he => ?_
        simp only [Option.getD_some] at he
        obtain ⟨rfl, hg⟩ := snd_store (P := P) (w := w) (t := t) r (cOpd_vr er ha) (cOpd_vr er hb) hs (cOpd_nil hb) he
        have := goodU_n hg
        simpa only [execOp, hop] using this
      · simp at hc
  | nilCheck x =>
    unfold cOp
    cases hc : cOp? P nt o with
    | none => trivial
    | some q =>
      simp only [cOp?, hop, Option.map_eq_some_iff] at hc
      obtain ⟨y, hy, rfl⟩ := hc
      refine sound_det rfl fun v σ' he => ?_
      simp only [Option.getD_some] at he
      obtain ⟨rfl, hv, hrun⟩ := snd_nilc (P := P) (w := w) (ρc := evc tm) hop rfl (cOpd_vr er hy) he
      exact ⟨_, _, w, g, hrun, .inl rfl, r, hv, EvoW.refl _ _ _⟩
  | unOp op t x =>
    unfold cOp
    cases hc : cOp? P nt o with
    | none => trivial
    | some q =>
      simp only [cOp?, hop] at hc
      split at hc
      · rename_i hnot
        have hc : (cOpd nt x).map AOp.not = some q := hc
        simp only [Option.map_eq_some_iff] at hc
        obtain ⟨y, hy, rfl⟩ := hc
        refine sound_det rfl fun v σ' he => ?_
        have vy := cOpd_vr er hy
        simp only [Option.getD_some, evalOp] at he
        generalize hcx : evc tm x = cx at vy
        generalize y.ev ρ = yv at *
        cases vy <;> try (simp at he; done)
        rename_i b
        simp only [OR.v.injEq] at he
        obtain ⟨rfl, rfl⟩ := he
        refine ⟨.value (.bool !b), _, w, g, ?_, .inl rfl, r, .bool _, EvoW.refl _ _ _⟩
        simp [execOp, hop, hcx, Op.unary]
      · simp at hc
  | convert src dst x =>
    unfold cOp
    cases hc : cOp? P nt o with
    | none => trivial
    | some q =>
      simp only [cOp?, hop] at hc
      split at hc
      case h_2 => simp at hc
      rename_i y hy
      have vy := cOpd_vr er hy
      split at hc
      · rename_i ks k hs hd
        simp only [Option.some.injEq] at hc; subst hc
        refine sound_det rfl fun v σ' he => ?_
        simp only [Option.getD_some] at he
        have := good_n (snd_conv (P := P) (w := w) r vy hs hd he)
        simpa only [execOp, hop] using this
      · rename_i e hs hd
        by_cases hu8 : P.underlying e = some (.int .u8)
        · simp only [hu8, if_true, Option.some.injEq] at hc; subst hc
          refine sound_det rfl fun v σ' he => ?_
          simp only [Option.getD_some] at he
          have := good_n (snd_b2s (P := P) (w := w) rfl r vy hs hu8 hd he)
          simpa only [execOp, hop] using this
        · simp at hc
      · simp at hc
  | makeFunc fn first cap =>
    unfold cOp
    cases hc : cOp? P nt o with
    | none => trivial
    | some q =>
      simp only [cOp?, hop] at hc
      split at hc
      · rename_i f l hfirst hl
        simp only [Option.some.injEq] at hc; subst hc
        refine sound_det rfl fun v σ' he => ?_
        simp only [Option.getD_some, evalOp, OR.v.injEq] at he
        obtain ⟨rfl, rfl⟩ := he
        obtain ⟨h1, h2⟩ := cOpds_vr er hl
        have hf0 : first = #[] := Array.toList_eq_nil_iff.1 hfirst
        subst hf0
        refine ⟨.value (.func (.func f) #[] (cap.map (evc tm))), _, w, g, ?_, .inl rfl, r, .fn f _ _ (by simpa using h1) (fun i x c a b => h2 i x c a (by simpa using b)), EvoW.refl _ _ _⟩
        simp [execOp, hop, Instr.makeFunc]
      · simp at hc
  | makeMap t c =>
    unfold cOp
    cases hc : cOp? P nt o with
    | none => trivial
    | some q =>
      simp only [cOp?, hop] at hc
      split at hc
      · rename_i kt et hu
        have key : (∀ x, c.map (evc tm) = some x -> ∃ k n, x = .int k n) -> SoundR P g σ w ((execOp (evc tm) o).run P w) (evalOp ρ σ .mkmap) := by
          intro hcc
          refine sound_det rfl fun v σ' he => ?_
          have := good_n (snd_mkmap (P := P) (w := w) r hu hcc he)
          simpa only [execOp, hop] using this
        split at hc
        · simp only [Option.some.injEq] at hc; subst hc
          exact key (fun x h => by simp at h)
        · simp only [Option.some.injEq] at hc; subst hc
          exact key (fun x h => by simp [evc] at h; exact ⟨_, _, h.symm⟩)
        · simp at hc
      · simp at hc
  | makeSlice t l c =>
    unfold cOp
    cases hc : cOp? P nt o with
    | none => trivial
    | some q =>
      simp only [cOp?, hop] at hc
      split at hc
      · rename_i e hu
        split at hc
        · rename_i i z a b hi hz ha hb
          split at hc
          · rename_i hs0
            simp only [Option.some.injEq] at hc; subst hc
            refine sound_det rfl fun v σ' he => ?_
            simp only [Option.getD_some] at he
            have := good_n (snd_mksl (P := P) (w := w) r (cOpd_vr er ha) (cOpd_vr er hb) hu hi hz hs0 he)
            simpa only [execOp, hop] using this
          · simp at hc
        · simp at hc
      · simp at hc
  | slice t x lo hi mx =>
    unfold cOp
    cases hc : cOp? P nt o with
    | none => trivial
    | some q =>
      simp only [cOp?, hop] at hc
      split at hc
      case h_2 => simp at hc
      rename_i x' lo' hi' mx' hx hlo hhi hmx
      split at hc
      · rename_i hu
        split at hc
        · rename_i hmn
          simp only [Option.some.injEq] at hc; subst hc
          have hm0 : mx' = none := by cases mx' with | none => rfl | some _ => simp at hmn
          subst hm0
          have hmx0 : mx = none := by
            cases mx with
            | none => rfl
            | some q => simp only [cOpdO, Option.map_eq_some_iff] at hmx; obtain ⟨_, _, h⟩ := hmx; simp at h
          subst hmx0
          refine sound_det rfl fun v σ' he => ?_
          simp only [Option.getD_some] at he
          have := good_n (snd_sslice (P := P) (w := w) r (cOpd_vr er hx) (cOpdO_vr er hlo) (cOpdO_vr er hhi) hu he)
          simpa only [execOp, hop, Option.map_none] using this
        · simp at hc
      · rename_i e hu
        split at hc
        case h_2 => simp at hc
        rename_i s hs
        split at hc
        · rename_i hs0
          simp only [Option.some.injEq] at hc; subst hc
          refine sound_det rfl fun v σ' he => ?_
          simp only [Option.getD_some] at he
          have := good_n (snd_slice (P := P) (w := w) r (cOpd_vr er hx) (cOpdO_vr er hlo) (cOpdO_vr er hhi) (cOpdO_vr er hmx) hs0.2 hu hs he)
          simpa only [execOp, hop] using this
        · simp at hc
      · simp at hc
  | fieldAddr t x f =>
    unfold cOp
    cases hc : cOp? P nt o with
    | none => trivial
    | some q =>
      simp only [cOp?, hop] at hc
      split at hc
      · rename_i off ft s y hf hy
        split at hc
        · rename_i hs0
          simp only [Option.some.injEq] at hc; subst hc
          refine sound_det rfl fun v σ' he => ?_
          simp only [Option.getD_some] at he
          have := good_n (snd_fld (P := P) (w := w) r (cOpd_vr er hy) hf hs0 he)
          simpa only [execOp, hop] using this
        · simp at hc
      · simp at hc
  | field t x f =>
    unfold cOp
    cases hc : cOp? P nt o with
    | none => trivial
    | some q =>
      simp only [cOp?, hop] at hc
      split at hc
      · rename_i off ft s y hf hy
        simp only [Option.map_eq_some_iff] at hc
        obtain ⟨ag, hag, rfl⟩ := hc
        refine sound_det rfl fun v σ' he => ?_
        simp only [Option.getD_some] at he
        have := good_n (snd_field (P := P) (w := w) r (cOpd_vr er hy) hf hag he)
        simpa only [execOp, hop] using this
      · simp at hc
  | indexAddr t x i =>
    unfold cOp
    cases hc : cOp? P nt o with
    | none => trivial
    | some q =>
      simp only [cOp?, hop] at hc
      split at hc
      · rename_i e x' i' hu hx hi
        split at hc
        case h_2 => simp at hc
        rename_i s hs
        split at hc
        · simp only [Option.some.injEq] at hc; subst hc
          refine sound_det rfl fun v σ' he => ?_
          simp only [Option.getD_some] at he
          have := good_n (snd_idxA (P := P) (w := w) r (cOpd_vr er hx) (cOpd_vr er hi) hu hs he)
          simpa only [execOp, hop] using this
        · simp at hc
      · rename_i len e x' i' hu hx hi
        split at hc
        case h_2 => simp at hc
        rename_i s hs
        split at hc
        · simp only [Option.some.injEq] at hc; subst hc
          refine sound_det rfl fun v σ' he => ?_
          simp only [Option.getD_some] at he
          have := good_n (snd_idxP (P := P) (w := w) r (cOpd_vr er hx) (cOpd_vr er hi) hu hs he)
          simpa only [execOp, hop] using this
        · simp at hc
      · simp at hc
  | index t x i =>
    unfold cOp
    cases hc : cOp? P nt o with
    | none => trivial
    | some q =>
      simp only [cOp?, hop] at hc
      split at hc
      · rename_i len e x' i' hu hx hi
        split at hc
        case h_2 => simp at hc
        rename_i s ag hs hag
        split at hc
        · simp only [Option.some.injEq] at hc; subst hc
          refine sound_det rfl fun v σ' he => ?_
          simp only [Option.getD_some] at he
          have := good_n (snd_idx (P := P) (w := w) r (cOpd_vr er hx) (cOpd_vr er hi) hu hs hag he)
          simpa only [execOp, hop] using this
        · simp at hc
      · rename_i x' i' hu hx hi
        simp only [Option.some.injEq] at hc; subst hc
        refine sound_det rfl fun v σ' he => ?_
        simp only [Option.getD_some] at he
        have := good_n (snd_idxS (P := P) (w := w) r (cOpd_vr er hx) (cOpd_vr er hi) hu he)
        simpa only [execOp, hop] using this
      · simp at hc
  | lookup t x i ok =>
    unfold cOp
    cases hc : cOp? P nt o with
    | none => trivial
    | some q =>
      simp only [cOp?, hop] at hc
      split at hc
      · rename_i kt et x' i' hu hx hi
        split at hc
        · rename_i ck z hck hz
          simp only [Option.some.injEq] at hc; subst hc
          refine sound_det rfl fun v σ' he => ?_
          simp only [Option.getD_some] at he
          obtain ⟨zv, hzr, hzv⟩ := zeroAV_run (P := P) (g := g) (σ := σ) (w := w) hz
          have := good_n (snd_lookup (P := P) (w := w) r (cOpd_vr er hx) (cOpd_vr er hi) hu hck hzr hzv he)
          simpa only [execOp, hop] using this
        · simp at hc
      · simp at hc
  | mapUpdate t m k x =>
    unfold cOp
    cases hc : cOp? P nt o with
    | none => trivial
    | some q =>
      simp only [cOp?, hop] at hc
      split at hc
      · rename_i kt et m' k' x' hu hm hk hx
        simp only [Option.map_eq_some_iff] at hc
        obtain ⟨ck, hck, rfl⟩ := hc
        refine sound_det rfl fun v σ' he => ?_
        simp only [Option.getD_some] at he
        obtain ⟨rfl, hg⟩ := snd_mapup (P := P) (w := w) r (cOpd_vr er hm) (cOpd_vr er hk) (cOpd_vr er hx) hu hck he
        have := goodU_n hg
        simpa only [execOp, hop] using this
      · simp at hc
  | insert t m k x =>
    unfold cOp
    cases hc : cOp? P nt o with
    | none => trivial
    | some q =>
      simp only [cOp?, hop] at hc
      split at hc
      · rename_i kt et m' k' x' hu hm hk hx
        simp only [Option.map_eq_some_iff] at hc
        obtain ⟨ck, hck, rfl⟩ := hc
        refine sound_det rfl fun v σ' he => ?_
        simp only [Option.getD_some] at he
        obtain ⟨rfl, hg⟩ := snd_mapup (P := P) (w := w) r (cOpd_vr er hm) (cOpd_vr er hk) (cOpd_vr er hx) hu hck he
        have := goodU_n hg
        simpa only [execOp, hop] using this
      · simp at hc
  | range t x =>
    unfold cOp
    cases hc : cOp? P nt o with
    | none => trivial
    | some q =>
      simp only [cOp?, hop] at hc
      split at hc
      · rename_i kt et x' hu hx
        simp only [Option.some.injEq] at hc; subst hc
        refine sound_det rfl fun v σ' he => ?_
        simp only [Option.getD_some] at he
        have := good_n (snd_range (P := P) (w := w) r (cOpd_vr er hx) hu he)
        simpa only [execOp, hop] using this
      · simp at hc
  | next it isString =>
    unfold cOp
    cases hc : cOp? P nt o with
    | none => trivial
    | some q =>
      simp only [cOp?, hop] at hc
      split at hc
      · simp at hc
      · rename_i hs
        have hs' : isString = false := by simpa using hs
        subst hs'
        simp only [Option.map_eq_some_iff] at hc
        obtain ⟨y, hy, rfl⟩ := hc
        simp only [Option.getD_some]
        obtain ⟨h1, h2⟩ := snd_next (P := P) (w := w) (ty := o.type) r (cOpd_vr er hy)
        cases hE : evalOp ρ σ (.next y) with
        | v v σ' =>
          have := good_n (h1 v σ' hE)
          show GoodN _ _ _ _ _ _ _
          simpa only [execOp, hop] using this
        | any l =>
          obtain ⟨p, hp, hg⟩ := h2 l hE
          refine ⟨p, hp, ?_⟩
          have := good_n hg
          simpa only [execOp, hop] using this
        | bad => trivial
        | call f args =>
          exfalso
          simp only [evalOp] at hE
          repeat' (first | (simp at hE; done) | split at hE)
        | yld β args =>
          exfalso
          simp only [evalOp] at hE
          repeat' (first | (simp at hE; done) | split at hE)
  | entry it =>
    unfold cOp
    cases hc : cOp? P nt o with
    | none => trivial
    | some q =>
      simp only [cOp?, hop, Option.map_eq_some_iff] at hc
      obtain ⟨y, hy, rfl⟩ := hc
      refine sound_det rfl fun v σ' he => ?_
      simp only [Option.getD_some] at he
      have := good_n (snd_entry (P := P) (w := w) r (cOpd_vr er hy) he)
      simpa only [execOp, hop] using this
  | extract x i =>
    unfold cOp
    cases hc : cOp? P nt o with
    | none => trivial
    | some q =>
      simp only [cOp?, hop, Option.map_eq_some_iff] at hc
      obtain ⟨y, hy, rfl⟩ := hc
      refine sound_det rfl fun v σ' he => ?_
      simp only [Option.getD_some] at he
      have := good_n (snd_ext (P := P) (w := w) r (cOpd_vr er hy) he)
      simpa only [execOp, hop] using this
  | _ =>
    unfold cOp
    simp only [cOp?, hop, Option.getD_none]
    trivial
end Go.Proofs.YtekhblefchceaaaGreat.AM

/- Lists of operations of the abstract machine are the model's regions. -/
namespace Go.Proofs.YtekhblefchceaaaGreat.AM
open Go
def Fc (ro : Option Nat) : Fence := { fn := fun _ => True, depth := none, alive := false, round := ro }
section
variable (P : Program)
def RetPost (g : Gh) (σ : St) (h : World) (K : AV -> St -> Prop) : Ending -> World -> Prop
  | .returned cv, w' => ∃ v σ' g', K v σ' /\ Rel P g' σ' w'.heap /\ VRs g' σ' w' v cv /\ EvoW g σ h g' σ' w'
  | _, _ => False
def ACalls (f : Nat) (args : List AV) (σ : St) (K : AV -> St -> Prop) : Prop :=
  CallOk P f /\ (∃ v σ', K v σ') /\ ∀ (g : Gh) (w : World) (cargs : List Value), Rel P g σ w.heap -> VRL g σ w args cargs -> CallsIn (Fc none) 0 P f cargs.toArray w (RetPost P g σ w K)
def AYields (β : Nat) (args : List AV) (σ : St) (K : AV -> St -> Prop) : Prop :=
  (∃ v σ', K v σ') /\ ∀ (g : Gh) (w : World) (cargs : List Value), Rel P g σ w.heap -> VRL g σ w args cargs ->
    ∃ f tmps assign body, (Instr.yield (g.bl β) cargs.toArray).run P w = .ok (.round (g.bl β) f tmps assign body) w /\ RoundIn (Fc none) 0 P (g.bl β) f tmps assign body w (RetPost P g σ w K)
def upon (σ : St) (K : AV -> St -> Prop) : OR -> Prop
  | .v v σ' => K v σ'
  | .any l => l ≠ [] /\ ∀ p, p ∈ l -> K p.1 p.2
  | .call f args => ACalls P f args σ K
  | .yld β args => AYields P β args σ K
  | .bad => False
def AO (i : AInstr) (K : Env -> St -> Prop) (ρ : Env) (σ : St) : Prop :=
  match wanted ρ i.guard with
  | some true => upon P σ (fun v σ' => K (ρ.putO i.dst v) σ') (evalOp ρ σ i.op)
  | some false => K (ρ.putO i.dst (.tup [])) σ
  | none => False
def AL : List AInstr -> (Env -> St -> Prop) -> Env -> St -> Prop
  | [], K => K
  | i :: r, K => AO P i (AL r K)
end
variable {P : Program}
theorem RetPost.mono {g : Gh} {σ : St} {h : World} {K K' : AV -> St -> Prop} (hk : ∀ v σ', K v σ' -> K' v σ') {e : Ending} {w : World} (hp : RetPost P g σ h K e w) : RetPost P g σ h K' e w := by
  cases e with
  | returned cv => obtain ⟨v, σ', g', h1, h2⟩ := hp; exact ⟨v, σ', g', hk _ _ h1, h2⟩
  | panicked _ => exact hp.elim
  | outgrown => exact hp.elim
theorem ACalls.mono {f : Nat} {args : List AV} {σ : St} {K K' : AV -> St -> Prop} (h : ACalls P f args σ K) (hk : ∀ v σ', K v σ' -> K' v σ') : ACalls P f args σ K' :=
  ⟨h.1, let ⟨v, σ', hv⟩ := h.2.1; ⟨v, σ', hk _ _ hv⟩, fun g w cargs r hl => (h.2.2 g w cargs r hl).mono fun _ _ hp => hp.mono hk⟩
theorem AYields.mono {β : Nat} {args : List AV} {σ : St} {K K' : AV -> St -> Prop} (h : AYields P β args σ K) (hk : ∀ v σ', K v σ' -> K' v σ') : AYields P β args σ K' :=
  ⟨let ⟨v, σ', hv⟩ := h.1; ⟨v, σ', hk _ _ hv⟩, fun g w cargs r hl =>
    let ⟨f, tmps, assign, body, h1, h2⟩ := h.2 g w cargs r hl
    ⟨f, tmps, assign, body, h1, h2.mono fun _ _ hp => hp.mono hk⟩⟩
theorem upon_mono {σ : St} {K K' : AV -> St -> Prop} (hk : ∀ v σ', K v σ' -> K' v σ') {o : OR} (h : upon P σ K o) : upon P σ K' o := by
  cases o with
  | v v σ' => exact hk _ _ h
  | any l => exact ⟨h.1, fun p hp => hk _ _ (h.2 p hp)⟩
  | call f args => exact ACalls.mono h hk
  | yld β args => exact AYields.mono h hk
  | bad => exact h
theorem upon_some {σ : St} {K : AV -> St -> Prop} {o : OR} (h : upon P σ K o) : ∃ v σ', K v σ' := by
  cases o with
  | v v σ' => exact ⟨_, _, h⟩
  | any l =>
    obtain ⟨h1, h2⟩ := h
    cases l with
    | nil => exact absurd rfl h1
    | cons p r => exact ⟨_, _, h2 p (by simp)⟩
  | call f args => exact h.2.1
  | yld β args => exact h.1
  | bad => exact h.elim
theorem AO_mono {i : AInstr} {K K' : Env -> St -> Prop} (hk : ∀ ρ σ, K ρ σ -> K' ρ σ) {ρ : Env} {σ : St} (h : AO P i K ρ σ) : AO P i K' ρ σ := by
  unfold AO at *
  split at h
  · exact upon_mono (fun v σ' => hk _ _) h
  · exact hk _ _ h
  · exact h
theorem AO_some {i : AInstr} {K : Env -> St -> Prop} {ρ : Env} {σ : St} (h : AO P i K ρ σ) : ∃ ρ' σ', K ρ' σ' := by
  unfold AO at h
  split at h
  · obtain ⟨v, σ', h⟩ := upon_some h; exact ⟨_, _, h⟩
  · exact ⟨_, _, h⟩
  · exact h.elim
theorem AL_some : ∀ {l : List AInstr} {K : Env -> St -> Prop} {ρ : Env} {σ : St}, AL P l K ρ σ -> ∃ ρ' σ', K ρ' σ'
  | [], _, _, _, h => ⟨_, _, h⟩
  | _ :: _, _, _, _, h => let ⟨_, _, h⟩ := AO_some h; AL_some h
def Mk (base : Nat) (g : Gh) (σ : St) (h : Heap) (ds : List Deferred) : Prop :=
  (∀ d, d ∈ ds -> ∃ r, d = { target := .collected r, args := #[] } /\ base <= r /\ DO g σ.H h r (.deferred (some []))) /\ ds.Nodup
theorem Mk.evo {base : Nat} {g g' : Gh} {σ σ' : St} {h h' : Heap} {ds : List Deferred} (e : Evo g σ h g' σ' h') (m : Mk base g σ h ds) : Mk base g' σ' h' ds :=
  ⟨fun d hd => let ⟨r, h1, h2, h3⟩ := m.1 d hd; ⟨r, h1, h2, e.edo _ _ h3⟩, m.2⟩
theorem ER.evo {g g' : Gh} {σ σ' : St} {w w' : World} {nt : Nat} {ρ : Env} {tm : Array Value} (e : Evo g σ w.heap g' σ' w'.heap) (er : ER g σ w nt ρ tm) : ER g' σ' w' nt ρ tm :=
  ⟨er.size, fun i hi => VR.evo e (er.vr i hi)⟩
theorem ER.put {g : Gh} {σ : St} {w : World} {nt : Nat} {ρ : Env} {a : Act} (er : ER g σ w nt ρ a.tmps) {dst : Option Nat} (hd : ∀ d, dst = some d -> d < nt) {v : AV} {cv : Value} (hv : VRs g σ w v cv) :
    ER g σ w nt (ρ.putO dst v) (a.put dst cv).tmps := by
  cases dst with
  | none => exact er
  | some d =>
    refine ⟨by simp [Act.put, er.size], fun i hi => ?_⟩
    simp only [Env.putO, Env.put, Act.put]
    by_cases e : i = d
    · subst e; rw [if_pos rfl]; simp [er.size, hi]; exact hv
    · rw [if_neg e]
      have : (a.tmps.setIfInBounds d cv).getD i Go.undef = a.tmps.getD i Go.undef := by
        simp only [Array.getD_eq_getD_getElem?, Array.getElem?_setIfInBounds]
        rw [if_neg (fun x => e x.symm)]
      rw [this]; exact er.vr i hi
def LKs (P : Program) (nt base : Nat) (g : Gh) (σ : St) (h : World) (K : Env -> St -> Prop) (a : Act) (w : World) : Prop :=
  ∃ ρ' σ' g', K ρ' σ' /\ Rel P g' σ' w.heap /\ ER g' σ' w nt ρ' a.tmps /\ EvoW g σ h g' σ' w /\ Mk base g' σ' w.heap a.defers
theorem act_eval (a : Act) : a.eval = evc a.tmps := by funext x; cases x <;> rfl
variable {nt base : Nat} {ops : Array Oper}
theorem not_defer {o : Oper} {ρ : Env} {σ : St} (h : evalOp ρ σ (cOp P nt o) ≠ .bad) : ∀ c, o.op ≠ .defer c := by
  intro c hc
  apply h
  simp [cOp, cOp?, hc, evalOp]
theorem wanted_sound {g : Gh} {σ : St} {w : World} {ρ : Env} {a : Act} (er : ER g σ w nt ρ a.tmps) {o : Oper} {b : Bool} {ai : AInstr} (hi : cInstr P nt ops o = ai) (hb : ai.guard = none -> ai.op ≠ .bad) (h : wanted ρ ai.guard = some b) :
    Region.wanted o (yielded ops a.tmps) = b := by
  unfold cInstr at hi
  unfold Region.wanted
  cases hg : o.guard with
  | none => simp only [hg] at hi; subst hi; simpa [wanted] using h
  | some p =>
    obtain ⟨j, want⟩ := p
    simp only [hg] at hi ⊢
    split at hi
    · rename_i s hs
      split at hi
      · rename_i hlt
        subst hi
        simp only [wanted] at h
        have hv := er.vr s hlt
        have hsz : s < a.tmps.size := by rw [er.size]; exact hlt
        have hy : yielded ops a.tmps j = (match (a.tmps.getD s Go.undef) with | .bool b => some b | _ => none) := by
          simp only [yielded, hs, Option.bind_some, Array.getD_eq_getD_getElem?]
          rw [Array.getElem?_eq_getElem hsz]
          simp
          cases a.tmps[s] <;> rfl
        rw [hy]
        generalize ρ s = x at h hv
        generalize a.tmps.getD s Go.undef = c at hv
        cases hv <;> try (simp at h; done)
        · simp at h; rw [<- h]; simp
        · rename_i l cs hl _
          split at h
          · simp at *
          · rename_i e1 e2
            simp only [AV.tup.injEq] at e2
            simp at h
            rw [h]; simp
          · simp at h
      · subst hi; exact absurd rfl (hb rfl)
    · subst hi; exact absurd rfl (hb rfl)
theorem ao_sound {ro : Option Nat} {g : Gh} {σ : St} {w : World} {ρ : Env} {a : Act} (r : Rel P g σ w.heap) (er : ER g σ w nt ρ a.tmps) (mk : Mk base g σ w.heap a.defers) {i : Nat} {o : Oper} (ho : ops[i]? = some o)
    (hd : ∀ d, o.dst = some d -> d < nt) {K : Env -> St -> Prop} (h : AO P (cInstr P nt ops o) K ρ σ) (Q : Exit -> Act -> World -> Prop) :
    wpOpIn (Fc ro) 0 P ops Q i (LKs P nt base g σ w K) a w := by
  unfold wpOpIn
  simp only [ho]
  have hdst : (cInstr P nt ops o).dst = o.dst := by
    unfold cInstr
    split
    · rfl
    · split
      · split <;> rfl
      · rfl
  have hop : (cInstr P nt ops o).op = cOp P nt o \/ (cInstr P nt ops o).op = .bad := by
    unfold cInstr
    split
    · exact .inl rfl
    · split
      · split
        · exact .inl rfl
        · exact .inr rfl
      · exact .inr rfl
  unfold AO at h
  rw [hdst] at h
  have fin : ∀ (v : AV) (σ' : St) (cv : Value) (w' : World) (g' : Gh), K (ρ.putO o.dst v) σ' -> Rel P g' σ' w'.heap -> VRs g' σ' w' v cv -> EvoW g σ w g' σ' w' -> LKs P nt base g σ w K (a.put o.dst cv) w' := by
    intro v σ' cv w' g' hk hr hv he
    refine ⟨_, σ', g', hk, hr, (er.evo he.toEvo).put hd hv, he, ?_⟩
    have : (a.put o.dst cv).defers = a.defers := by unfold Act.put; cases o.dst <;> rfl
    rw [this]; exact mk.evo he.toEvo
  have finr : ∀ (Kx : AV -> St -> Prop), (∀ v σ', Kx v σ' -> K (ρ.putO o.dst v) σ') -> ∀ e w', RetPost P g σ w Kx e w' -> (match e, w' with
      | .returned v, w'' => LKs P nt base g σ w K (a.put o.dst v) w''
      | .panicked chain, w'' => Q (.panic chain) a w''
      | .outgrown, _ => LetsOut Q) := by
    intro Kx hk e w' hp
    cases e with
    | returned cv => obtain ⟨v, σ', g', h1, h2, h3, h4⟩ := hp; exact fin v σ' cv w' g' (hk _ _ h1) h2 h3 h4
    | panicked _ => exact hp.elim
    | outgrown => exact hp.elim
  split at h
  · rename_i hw
    have hnb : (cInstr P nt ops o).op ≠ .bad := fun e => by rw [e] at h; exact h
    rcases hop with hop | hop
    · have hw' := wanted_sound er rfl (fun _ => hnb) hw
      rw [if_pos hw']
      refine ⟨fun _ _ => trivial, ?_⟩
      rw [hop] at h
      have hs := op_sound (P := P) (o := o) r er
      have hne : evalOp ρ σ (cOp P nt o) ≠ .bad := fun e => by rw [e] at h; exact h
      rw [Oper.semAt_eq _ _ _ (not_defer hne), act_eval]
      have good : ∀ (v : AV) (σ' : St), GoodN P g σ w ((execOp (evc a.tmps) o).run P w) v σ' -> K (ρ.putO o.dst v) σ' ->
          o.uponIn (Fc ro) 0 P a (LKs P nt base g σ w K) Q ((execOp (evc a.tmps) o).run P w) := by
        rintro v σ' ⟨nx, cv, w', g', hr, hnx, hrel, hv, he⟩ hk
        rw [hr]
        rcases hnx with rfl | ⟨rfl, rfl⟩
        · exact fin v σ' cv w' g' hk hrel hv he
        · exact fin v σ' Go.undef w' g' hk hrel hv he
      generalize evalOp ρ σ (cOp P nt o) = ev at h hs
      cases ev with
      | v v σ' => exact good v σ' hs h
      | any l => obtain ⟨p, hp, hg⟩ := hs; exact good p.1 p.2 hg (h.2 p hp)
      | call f args =>
        obtain ⟨cargs, hvl, hres⟩ := hs
        rw [hres h.1]
        refine ⟨fun x => by simp [Fc] at x, ?_⟩
        exact (h.2.2 g w cargs r hvl).mono (finr _ fun _ _ h => h)
      | yld β args =>
        obtain ⟨_, cargs, hvl, hres⟩ := hs
        obtain ⟨f, tmps, assign, body, hy, hrd⟩ := h.2 g w cargs r hvl
        rw [hres, hy]
        refine ⟨fun x => by simp [Fc] at x, ?_⟩
        exact RoundIn.mono hrd (finr _ fun _ _ h => h)
      | bad => exact h.elim
    · exact absurd hop hnb
  · rename_i hw
    have hw' := wanted_sound (P := P) (ops := ops) (o := o) er rfl (fun e => by rw [e] at hw; simp [wanted] at hw) hw
    rw [if_neg (by rw [hw']; simp)]
    exact ⟨fun _ _ => trivial, fin (.tup []) σ Go.undef w g h r (vr_nil _ _ _) (EvoW.refl _ _ _)⟩
  · exact h.elim
end Go.Proofs.YtekhblefchceaaaGreat.AM

/- Orders of evaluation: operations that may be swapped; a region that draws its order. -/
namespace Go.Proofs.YtekhblefchceaaaGreat.AM
open Go
variable {P : Program}
theorem ev_congr {ρ ρ' : Env} {l : List Opd} (h : ∀ t, t ∈ l.filterMap (fun | .t i => some i | .c _ => none) -> ρ t = ρ' t) : ∀ x, x ∈ l -> x.ev ρ = x.ev ρ' := by
  intro x hx
  cases x with
  | c v => rfl
  | t i => exact h i (List.mem_filterMap.2 ⟨.t i, hx, rfl⟩)
theorem optNat_congr {ρ ρ' : Env} {d : Nat} {o : Option Opd} (h : ∀ x, x ∈ optL o -> x.ev ρ = x.ev ρ') : optNat ρ d o = optNat ρ' d o := by
  cases o with
  | none => rfl
  | some x => simp only [optNat, h x (by simp [optL])]
theorem buildA_congr {ρ ρ' : Env} : ∀ {ps : List (Nat × Nat × Opd)} {z : List AV}, (∀ x, x ∈ ps.map (·.2.2) -> x.ev ρ = x.ev ρ') -> buildA ρ z ps = buildA ρ' z ps
  | [], z, _ => rfl
  | (off, sz, x) :: r, z, h => by
    simp only [buildA]
    rw [h x (by simp), ]
    rw [buildA_congr (ps := r) (fun y hy => h y (by simp at hy ⊢; exact .inr hy))]
theorem map_congr {ρ ρ' : Env} {l : List Opd} (h : ∀ x, x ∈ l -> x.ev ρ = x.ev ρ') : l.map (·.ev ρ) = l.map (·.ev ρ') := List.map_congr_left h
theorem evalOp_congr {ρ ρ' : Env} {o : AOp} (h : ∀ t, t ∈ o.reads -> ρ t = ρ' t) (σ : St) : evalOp ρ σ o = evalOp ρ' σ o := by
  replace h := ev_congr h
  cases o
  case build z ps => simp only [AOp.opds] at h; simp only [evalOp, buildA_congr h]
  case lit sz xs => simp only [AOp.opds] at h; simp only [evalOp, map_congr h]
  case mkfn f xs => simp only [AOp.opds] at h; simp only [evalOp, map_congr h]
  case call f xs => simp only [AOp.opds] at h; simp only [evalOp, map_congr h]
  case callv x xs =>
    simp only [AOp.opds] at h
    have h1 : xs.map (·.ev ρ) = xs.map (·.ev ρ') := map_congr fun y hy => h y (by simp [hy])
    simp only [evalOp, h1, h x (by simp)]
  case slice sz x lo hi mx =>
    simp only [AOp.opds] at h
    have h1 : ∀ d, optNat ρ d lo = optNat ρ' d lo := fun d => optNat_congr fun y hy => h y (by simp [hy])
    have h2 : ∀ d, optNat ρ d hi = optNat ρ' d hi := fun d => optNat_congr fun y hy => h y (by simp [hy])
    have h3 : ∀ d, optNat ρ d mx = optNat ρ' d mx := fun d => optNat_congr fun y hy => h y (by simp [hy])
    simp only [evalOp, h x (by simp), h1, h2, h3]
  case sslice x lo hi =>
    simp only [AOp.opds] at h
    have h1 : ∀ d, optNat ρ d lo = optNat ρ' d lo := fun d => optNat_congr fun y hy => h y (by simp [hy])
    have h2 : ∀ d, optNat ρ d hi = optNat ρ' d hi := fun d => optNat_congr fun y hy => h y (by simp [hy])
    simp only [evalOp, h x (by simp), h1, h2]
  all_goals
    simp only [AOp.opds, List.mem_cons, List.not_mem_nil, or_false, forall_eq_or_imp, forall_eq] at h
    first
      | rfl
      | (simp only [evalOp, h]; done)
      | (obtain ⟨h1, h2⟩ := h; simp only [evalOp, h1, h2]; done)
      | (obtain ⟨h1, h2, h3⟩ := h; simp only [evalOp, h1, h2, h3]; done)
def OR.at (σ : St) (o : OR) : OR :=
  match o with
  | .v x _ => .v x σ
  | o => o
theorem pure_at {o : AOp} (hp : pureOp o = true) (ρ : Env) (σ σ' : St) : evalOp ρ σ' o = (evalOp ρ σ o).at σ' /\ ((evalOp ρ σ o = .bad) \/ ∃ v, evalOp ρ σ o = .v v σ) := by
  cases o <;> first | (simp [pureOp] at hp; done) | skip
  all_goals
    simp only [evalOp]
    repeat' split
    all_goals first
      | exact ⟨rfl, .inl rfl⟩
      | exact ⟨rfl, .inr ⟨_, rfl⟩⟩
      | simp_all
theorem read_at {o : AOp} (hp : readOp o = true) (ρ : Env) (σ : St) : (evalOp ρ σ o = .bad) \/ ∃ v, evalOp ρ σ o = .v v σ := by
  cases o <;> first | (simp [readOp] at hp; done) | skip
  all_goals
    simp only [evalOp]
    repeat' split
    all_goals first
      | exact .inl rfl
      | exact .inr ⟨_, rfl⟩
def out (i : AInstr) (ρ : Env) (σ : St) : OR :=
  match wanted ρ i.guard with
  | some true => evalOp ρ σ i.op
  | some false => .v (.tup []) σ
  | none => .bad
theorem AO_out {i : AInstr} {K : Env -> St -> Prop} {ρ : Env} {σ : St} : AO P i K ρ σ ↔ upon P σ (fun v σ' => K (ρ.putO i.dst v) σ') (out i ρ σ) := by
  unfold AO out
  cases wanted ρ i.guard with
  | none => exact Iff.rfl
  | some b => cases b <;> exact Iff.rfl
theorem putO_ne {ρ : Env} {d : Option Nat} {v : AV} {t : Nat} (h : d ≠ some t) : (ρ.putO d v) t = ρ t := by
  cases d with
  | none => rfl
  | some d => simp only [Env.putO, Env.put]; rw [if_neg (fun e => h (by rw [e]))]
theorem out_put {i : AInstr} {d : Option Nat} (h : ∀ t, t ∈ i.looks -> d ≠ some t) (ρ : Env) (v : AV) (σ : St) : out i (ρ.putO d v) σ = out i ρ σ := by
  have h1 : wanted (ρ.putO d v) i.guard = wanted ρ i.guard := by
    cases hg : i.guard with
    | none => rfl
    | some p =>
      obtain ⟨s, b⟩ := p
      simp only [wanted]
      rw [putO_ne (h s (by simp [AInstr.looks, hg]))]
  have h2 : evalOp (ρ.putO d v) σ i.op = evalOp ρ σ i.op := evalOp_congr (fun t ht => putO_ne (h t (by simp [AInstr.looks, ht]))) σ
  unfold out
  rw [h1, h2]
theorem disj_spec {a b : AInstr} (h : disj a b = true) : (∀ t, t ∈ b.looks -> a.dst ≠ some t) /\ (∀ t, t ∈ a.looks -> b.dst ≠ some t) /\ ∀ (ρ : Env) (x y : AV), (ρ.putO a.dst x).putO b.dst y = (ρ.putO b.dst y).putO a.dst x := by
  simp only [disj, Bool.and_eq_true] at h
  obtain ⟨h1, h2⟩ := h
  refine ⟨fun t ht e => ?_, fun t ht e => ?_, fun ρ x y => ?_⟩
  · rw [e] at h1; simp [ht] at h1
  · rw [e] at h2; simp [ht] at h2
  · cases ha : a.dst with
    | none => rfl
    | some d =>
      cases hb : b.dst with
      | none => rfl
      | some e =>
        rw [ha, hb] at h1
        simp only [Bool.and_eq_true, decide_eq_true_eq] at h1
        funext j
        simp only [Env.putO, Env.put]
        by_cases e1 : j = e
        · subst e1; rw [if_pos rfl, if_neg (fun x => h1.2 x.symm)]; simp
        · rw [if_neg e1]; simp [e1]
theorem out_pure {i : AInstr} (hp : pureOp i.op = true) (ρ : Env) : (∀ σ, out i ρ σ = .bad) \/ ∃ v, ∀ σ, out i ρ σ = .v v σ := by
  unfold out
  cases wanted ρ i.guard with
  | none => exact .inl fun _ => rfl
  | some b =>
    cases b with
    | false => exact .inr ⟨.tup [], fun _ => rfl⟩
    | true =>
      have h0 := pure_at hp ρ ⟨[], 0⟩
      rcases (h0 ⟨[], 0⟩).2 with e | ⟨v, e⟩
      · exact .inl fun σ => by rw [(h0 σ).1, e]; rfl
      · exact .inr ⟨v, fun σ => by rw [(h0 σ).1, e]; rfl⟩
theorem out_read {i : AInstr} (hp : readOp i.op = true) (ρ : Env) (σ : St) : out i ρ σ = .bad \/ ∃ v, out i ρ σ = .v v σ := by
  unfold out
  cases wanted ρ i.guard with
  | none => exact .inl rfl
  | some b =>
    cases b with
    | false => exact .inr ⟨.tup [], rfl⟩
    | true => exact read_at hp ρ σ
theorem AO_swap {a b : AInstr} (hc : calmPair a b = true) {K : Env -> St -> Prop} {ρ : Env} {σ : St} (h : AO P a (AO P b K) ρ σ) : AO P b (AO P a K) ρ σ := by
  simp only [calmPair, Bool.and_eq_true, Bool.or_eq_true] at hc
  obtain ⟨hd, hc⟩ := hc
  obtain ⟨d1, d2, d3⟩ := disj_spec hd
  have h : upon P σ (fun va σ1 => upon P σ1 (fun vb σ2 => K ((ρ.putO a.dst va).putO b.dst vb) σ2) (out b ρ σ1)) (out a ρ σ) := by
    refine upon_mono (fun va σ1 hk => ?_) (AO_out.1 h)
    have := AO_out.1 hk
    rwa [out_put d1] at this
  refine AO_out.2 ?_
  suffices hs : upon P σ (fun vb σ1 => upon P σ1 (fun va σ2 => K ((ρ.putO a.dst va).putO b.dst vb) σ2) (out a ρ σ1)) (out b ρ σ) by
    refine upon_mono (fun vb σ1 hk => AO_out.2 ?_) hs
    rw [out_put d2]
    refine upon_mono (fun va σ2 hk => ?_) hk
    rw [<- d3]; exact hk
  rcases hc with (hp | hp) | ⟨hp, hq⟩
  · rcases out_pure hp ρ with e | ⟨va, e⟩
    · rw [e] at h; exact h.elim
    · rw [e] at h
      refine upon_mono (fun vb σ1 hk => ?_) h
      rw [e]; exact hk
  · rcases out_pure hp ρ with e | ⟨vb, e⟩
    · obtain ⟨va, σ1, hk⟩ := upon_some h
      rw [e] at hk; exact hk.elim
    · rw [e]
      show upon P σ (fun va σ2 => K ((ρ.putO a.dst va).putO b.dst vb) σ2) (out a ρ σ)
      refine upon_mono (fun va σ1 hk => ?_) h
      rw [e] at hk; exact hk
  · rcases out_read hp ρ σ with e | ⟨va, e⟩
    · rw [e] at h; exact h.elim
    · rw [e] at h
      rcases out_read hq ρ σ with e2 | ⟨vb, e2⟩
      · have h : upon P σ (fun vb σ2 => K ((ρ.putO a.dst va).putO b.dst vb) σ2) (out b ρ σ) := h
        rw [e2] at h; exact h.elim
      · have h : upon P σ (fun vb σ2 => K ((ρ.putO a.dst va).putO b.dst vb) σ2) (out b ρ σ) := h
        rw [e2] at h ⊢
        show upon P σ _ (out a ρ σ)
        rw [e]; exact h
def readyA (deps : List (List Nat)) (dn : Nat -> Bool) : List Nat := (List.range deps.length).filter fun i => !dn i && (deps.getD i []).all dn
def AnyA (P : Program) (is : List AInstr) (deps : List (List Nat)) (K : Env -> St -> Prop) : Nat -> (Nat -> Bool) -> Env -> St -> Prop
  | 0, dn, ρ, σ => readyA deps dn = [] /\ K ρ σ
  | f + 1, dn, ρ, σ => (readyA deps dn = [] -> K ρ σ) /\ ∀ i, i ∈ readyA deps dn -> AO P (is.getD i default) (AnyA P is deps K f fun x => x == i || dn x) ρ σ
theorem mem_readyA {deps : List (List Nat)} {dn : Nat -> Bool} {i : Nat} : i ∈ readyA deps dn ↔ i < deps.length /\ dn i = false /\ ∀ e, e ∈ deps.getD i [] -> dn e = true := by
  simp [readyA]
theorem ancs_spec : ∀ (deps : List (List Nat)) (acc : List Nat) (all : List (List Nat)), acc.length + deps.length = all.length -> (∀ k, deps[k]? = all[acc.length + k]?) ->
    (∀ (j i : Nat) (s : Nat), acc[j]? = some s -> s.testBit i = true -> ∃ e, e ∈ all.getD j [] /\ (i = e \/ (e < j /\ (acc.getD e 0).testBit i = true))) ->
    (∀ (j i : Nat) (s : Nat), (ancs acc deps)[j]? = some s -> s.testBit i = true -> ∃ e, e ∈ all.getD j [] /\ (i = e \/ (e < j /\ ((ancs acc deps).getD e 0).testBit i = true)))
  | [], acc, all, _, _, h => h
  | d :: r, acc, all, hl, ha, h => by
    simp only [ancs]
    refine ancs_spec r _ all (by simp at hl ⊢; omega) (fun k => by have := ha (k + 1); simp at this ⊢; rw [this]; congr 1; omega) ?_
    have hd : all.getD acc.length [] = d := by
      have := ha 0
      simp at this
      simp [List.getD, <- this]
    intro j i s hj hb
    rw [List.getElem?_append] at hj
    have keep : ∀ e, e < acc.length -> (acc ++ [d.foldr (fun e s => 2 ^ e ||| acc.getD e 0 ||| s) 0]).getD e 0 = acc.getD e 0 := fun e he => by
      simp [List.getD, List.getElem?_append_left he]
    split at hj
    · rename_i hlt
      obtain ⟨e, he, h1⟩ := h j i s hj hb
      refine ⟨e, he, h1.imp id fun ⟨h2, h3⟩ => ⟨h2, ?_⟩⟩
      rw [keep e (by omega)]; exact h3
    · rename_i hge
      have hjl : j = acc.length := by
        have := (List.getElem?_eq_some_iff.1 hj).1
        simp at this; omega
      subst hjl
      simp at hj
      subst hj
      rw [hd]
      clear hd ha hl h
      have key : ∀ d : List Nat, (d.foldr (fun e s => 2 ^ e ||| acc.getD e 0 ||| s) 0).testBit i = true -> ∃ e, e ∈ d /\ (i = e \/ (acc.getD e 0).testBit i = true) := by
        intro d
        induction d with
        | nil => intro hb; simp at hb
        | cons x xs ih =>
          intro hb
          simp only [List.foldr_cons, Nat.testBit_or, Bool.or_eq_true] at hb
          rcases hb with (hb | hb) | hb
          · exact ⟨x, by simp, .inl (by rw [Nat.testBit_two_pow] at hb; have := of_decide_eq_true hb; exact this.symm)⟩
          · exact ⟨x, by simp, .inr hb⟩
          · obtain ⟨e, he, h⟩ := ih hb
            exact ⟨e, by simp [he], h⟩
      obtain ⟨e, he, h1⟩ := key d hb
      refine ⟨e, he, ?_⟩
      rcases h1 with h1 | h1
      · exact .inl h1
      · have hlt : e < acc.length := by
          rcases Nat.lt_or_ge e acc.length with x | x
          · exact x
          · simp [List.getD, List.getElem?_eq_none x] at h1
        exact .inr ⟨hlt, by rw [keep e hlt]; exact h1⟩
def Down (deps : List (List Nat)) (dn : Nat -> Bool) : Prop := ∀ j, dn j = true -> ∀ e, e ∈ deps.getD j [] -> dn e = true
theorem anc_done {deps : List (List Nat)} {dn : Nat -> Bool} (hd : Down deps dn) : ∀ (j : Nat), (∀ e, e ∈ deps.getD j [] -> dn e = true) -> ∀ i, ((ancs [] deps).getD j 0).testBit i = true -> dn i = true := by
  intro j
  induction j using Nat.strongRecOn with
  | _ j ih =>
    intro hj i hb
    have hsome : ∃ s, (ancs [] deps)[j]? = some s := by
      cases h : (ancs [] deps)[j]? with
      | none => simp [List.getD, h] at hb
      | some s => exact ⟨s, rfl⟩
    obtain ⟨s, hs⟩ := hsome
    have hbs : s.testBit i = true := by simpa [List.getD, hs] using hb
    obtain ⟨e, he, h1⟩ := ancs_spec deps [] deps (by simp) (by simp) (fun j i s h => by simp at h) j i s hs hbs
    rcases h1 with rfl | ⟨hlt, hbe⟩
    · exact hj _ he
    · exact ih e hlt (fun x hx => hd e (hj e he) x hx) i hbe
theorem down_add {deps : List (List Nat)} {dn : Nat -> Bool} (hd : Down deps dn) {i : Nat} (hi : i ∈ readyA deps dn) : Down deps (fun x => x == i || dn x) := by
  intro j hj e he
  simp only [Bool.or_eq_true, beq_iff_eq] at hj ⊢
  rcases hj with rfl | hj
  · exact .inr ((mem_readyA.1 hi).2.2 e he)
  · exact .inr (hd j hj e he)
theorem anyA_take {is : List AInstr} {deps : List (List Nat)} {K : Env -> St -> Prop} {i : Nat} : ∀ (f : Nat) (dn : Nat -> Bool) (ρ : Env) (σ : St), Down deps dn -> i ∈ readyA deps dn ->
    (∀ j, j < deps.length -> dn j = false -> j ≠ i -> ((ancs [] deps).getD j 0).testBit i = true \/ calmPair (is.getD i default) (is.getD j default) = true) ->
    AO P (is.getD i default) (AnyA P is deps K f fun x => x == i || dn x) ρ σ -> AnyA P is deps K (f + 1) dn ρ σ := by
  intro f
  induction f with
  | zero =>
    intro dn ρ σ hd hi hc h
    refine ⟨fun e => (by rw [e] at hi; simp at hi), fun j hj => ?_⟩
    by_cases hji : j = i
    · subst hji; exact h
    · obtain ⟨_, _, hk⟩ := AO_some h
      have : j ∈ readyA deps (fun x => x == i || dn x) := by
        obtain ⟨h1, h2, h3⟩ := mem_readyA.1 hj
        exact mem_readyA.2 ⟨h1, by simp [hji, h2], fun e he => by simp [h3 e he]⟩
      rw [hk.1] at this; simp at this
  | succ f ih =>
    intro dn ρ σ hd hi hc h
    refine ⟨fun e => (by rw [e] at hi; simp at hi), fun j hj => ?_⟩
    by_cases hji : j = i
    · subst hji; exact h
    · obtain ⟨h1, h2, h3⟩ := mem_readyA.1 hj
      obtain ⟨i1, i2, i3⟩ := mem_readyA.1 hi
      have hj' : j ∈ readyA deps (fun x => x == i || dn x) := mem_readyA.2 ⟨h1, by simp [hji, h2], fun e he => by simp [h3 e he]⟩
      have hi' : i ∈ readyA deps (fun x => x == j || dn x) := mem_readyA.2 ⟨i1, by simp [Ne.symm hji, i2], fun e he => by simp [i3 e he]⟩
      have hcp : calmPair (is.getD i default) (is.getD j default) = true := by
        rcases hc j h1 h2 hji with hb | hb
        · have := anc_done hd j h3 i hb
          rw [i2] at this; cases this
        · exact hb
      have hx : AO P (is.getD j default) (AO P (is.getD i default) (AnyA P is deps K f fun x => x == j || (x == i || dn x))) ρ σ :=
        AO_swap hcp (AO_mono (fun ρ' σ' hk => hk.2 j hj') h)
      refine AO_mono (fun ρ' σ' hk => ?_) hx
      refine ih _ _ _ (down_add hd hj) hi' (fun k k1 k2 k3 => ?_) ?_
      · simp only [Bool.or_eq_false_iff] at k2
        exact hc k k1 k2.2 k3
      · have e : (fun x => x == j || (x == i || dn x)) = (fun x => x == i || (x == j || dn x)) := by
          funext x; cases x == j <;> cases x == i <;> rfl
        rw [<- e]; exact hk
theorem calm_any {is : List AInstr} {deps : List (List Nat)} (hl : deps.length = is.length) (hc : calm is deps = true) {K : Env -> St -> Prop} : ∀ (k m : Nat) (ρ : Env) (σ : St), m + k = is.length ->
    AL P (is.drop m) K ρ σ -> AnyA P is deps K k (fun x => decide (x < m)) ρ σ := by
  simp only [calm, Bool.and_eq_true, List.all_eq_true, List.mem_range, Bool.or_eq_true, decide_eq_true_eq] at hc
  intro k
  induction k with
  | zero =>
    intro m ρ σ hm h
    have hm : m = is.length := by omega
    subst hm
    rw [List.drop_length] at h
    refine ⟨?_, h⟩
    simp only [readyA, List.filter_eq_nil_iff, List.mem_range]
    intro i hi
    simp; omega
  | succ k ih =>
    intro m ρ σ hm h
    have hlt : m < is.length := by omega
    have hdrop : is.drop m = is.getD m default :: is.drop (m + 1) := by
      rw [List.drop_eq_getElem_cons hlt]
      simp [List.getD, List.getElem?_eq_getElem hlt]
    rw [hdrop] at h
    have hdown : Down deps (fun x => decide (x < m)) := by
      intro j hj e he
      simp only [decide_eq_true_eq] at hj ⊢
      have := (hc j (by omega)).1 e he
      omega
    refine anyA_take k _ ρ σ hdown ((mem_readyA (deps := deps) (i := m)).2 ⟨by omega, by simp, fun e he => by simpa using (hc m hlt).1 e he⟩) (fun j h1 h2 h3 => ?_) ?_
    · simp at h2
      exact (hc j (by omega)).2 m (by omega)
    · have e : (fun x => x == m || decide (x < m)) = (fun x => decide (x < m + 1)) := by
        funext x
        by_cases h1 : x = m
        · subst h1; simp
        · by_cases h2 : x < m
          · simp [h2]; omega
          · have : ¬ x < m + 1 := by omega
            simp [h1, h2, this]
      rw [e]
      exact AO_mono (fun ρ' σ' hk => ih (m + 1) ρ' σ' (by omega) hk) h
end Go.Proofs.YtekhblefchceaaaGreat.AM

/- Code of the abstract machine is the model's code: the rules. -/
namespace Go.Proofs.YtekhblefchceaaaGreat.AM
open Go
variable {P : Program} {nt base : Nat} {ops : Array Oper}
theorem LKs.trans {g g' : Gh} {σ σ' : St} {h h' : World} {K : Env -> St -> Prop} {a : Act} {w : World} (e : EvoW g σ h g' σ' h') (x : LKs P nt base g' σ' h' K a w) : LKs P nt base g σ h K a w := by
  obtain ⟨ρ', σ2, g2, h1, h2, h3, h4, h5⟩ := x
  exact ⟨ρ', σ2, g2, h1, h2, h3, e.trans h4, h5⟩
theorem okDst_spec (h : okDst nt ops.toList = true) {i : Nat} {o : Oper} (ho : ops[i]? = some o) : ∀ d, o.dst = some d -> d < nt := by
  intro d hd
  have := (List.all_eq_true.1 h) o (by
    have := Array.mem_of_getElem? ho
    simpa using this)
  rw [hd] at this
  simpa using this
theorem get_instr {i : Nat} {o : Oper} (ho : ops[i]? = some o) : (ops.toList.map (cInstr P nt ops)).getD i default = cInstr P nt ops o := by
  simp [List.getD, ho]
theorem al_sound {ro : Option Nat} (hdst : okDst nt ops.toList = true) {K : Env -> St -> Prop} {Q : Exit -> Act -> World -> Prop} : ∀ (l : List Nat) (g : Gh) (σ : St) (w : World) (ρ : Env) (a : Act),
    (∀ i, i ∈ l -> i < ops.size) -> Rel P g σ w.heap -> ER g σ w nt ρ a.tmps -> Mk base g σ w.heap a.defers -> (∀ a' w', LKs P nt base g σ w K a' w' -> Q .normal a' w') ->
    AL P (l.map fun i => (ops.toList.map (cInstr P nt ops)).getD i default) K ρ σ -> wpOpsIn (Fc ro) 0 P ops Q l a w
  | [], g, σ, w, ρ, a, _, r, er, mk, hQ, h => hQ a w ⟨ρ, σ, g, h, r, er, EvoW.refl _ _ _, mk⟩
  | i :: l, g, σ, w, ρ, a, hl, r, er, mk, hQ, h => by
    rw [wpOpsIn_cons]
    have hi := hl i (by simp)
    have ho : ops[i]? = some ops[i] := Array.getElem?_eq_getElem hi
    simp only [List.map_cons, AL] at h
    rw [get_instr ho] at h
    refine wpOpIn_mono (fun a' w' hk => ?_) (ao_sound r er mk ho (okDst_spec hdst ho) h Q)
    obtain ⟨ρ', σ', g', h1, h2, h3, h4, h5⟩ := hk
    exact al_sound hdst l g' σ' w' ρ' a' (fun j hj => hl j (by simp [hj])) h2 h3 h5 (fun a'' w'' hx => hQ _ _ (hx.trans h4)) h1
theorem range_map {α : Type} [Inhabited α] (l : List α) : (List.range l.length).map (fun i => l.getD i default) = l := by
  apply List.ext_getElem
  · simp
  · intro i h1 h2
    simp at h1
    simp [List.getD, List.getElem?_eq_getElem h1]
theorem ready_eq {listed : Array Bool} {dn : Nat -> Bool} (hs : listed.size = ops.size) (hd : ∀ j, listed.getD j false = dn j) : Region.ready .any ops listed = readyA (depsOf ops.toList) dn := by
  unfold Region.ready readyA
  have hlen : (depsOf ops.toList).length = ops.size := by simp [depsOf]
  rw [hlen]
  refine List.filter_congr fun i hi => ?_
  have hi := List.mem_range.1 hi
  have e1 : listed.getD i true = dn i := by rw [<- hd i]; simp [Array.getD, hs, hi]
  have ho : ops[i]? = some ops[i] := Array.getElem?_eq_getElem hi
  have e2 : (depsOf ops.toList).getD i [] = (ops[i].after.toList.filter (Region.binds .any ·)).map (·.on) := by
    simp [depsOf, List.getD, ho]
  rw [e1, e2, ho]
  congr 1
  simp only [Option.map_some, Option.getD_some, List.all_map, List.all_filter]
  rw [<- Array.all_toList]
  congr 1
  funext e
  simp [hd]
theorem any_sound {ro : Option Nat} (hdst : okDst nt ops.toList = true) {K : Env -> St -> Prop} {Q : Exit -> Act -> World -> Prop} : ∀ (f : Nat) (listed : Array Bool) (dn : Nat -> Bool) (g : Gh) (σ : St) (w : World) (ρ : Env) (a : Act),
    listed.size = ops.size -> (∀ j, listed.getD j false = dn j) -> Rel P g σ w.heap -> ER g σ w nt ρ a.tmps -> Mk base g σ w.heap a.defers -> (∀ a' w', LKs P nt base g σ w K a' w' -> Q .normal a' w') ->
    AnyA P (ops.toList.map (cInstr P nt ops)) (depsOf ops.toList) K f dn ρ σ -> wpAnyIn (Fc ro) 0 P .any ops Q f listed a w
  | 0, listed, dn, g, σ, w, ρ, a, hs, hd, r, er, mk, hQ, h => by
    simp only [wpAnyIn, ready_eq hs hd]
    exact ⟨h.1, hQ a w ⟨ρ, σ, g, h.2, r, er, EvoW.refl _ _ _, mk⟩⟩
  | f + 1, listed, dn, g, σ, w, ρ, a, hs, hd, r, er, mk, hQ, h => by
    simp only [wpAnyIn, ready_eq hs hd]
    refine ⟨fun e => hQ a w ⟨ρ, σ, g, h.1 e, r, er, EvoW.refl _ _ _, mk⟩, fun i hi => ?_⟩
    have h2 := h.2 i hi
    have hlt : i < ops.size := by have := (mem_readyA.1 hi).1; simpa [depsOf] using this
    have ho : ops[i]? = some ops[i] := Array.getElem?_eq_getElem hlt
    rw [get_instr ho] at h2
    refine wpOpIn_mono (fun a' w' hk => ?_) (ao_sound r er mk ho (okDst_spec hdst ho) h2 Q)
    obtain ⟨ρ', σ', g', k1, k2, k3, k4, k5⟩ := hk
    refine any_sound hdst f _ _ g' σ' w' ρ' a' (by simp [hs]) (fun j => ?_) k2 k3 k5 (fun a'' w'' hx => hQ _ _ (hx.trans k4)) k1
    by_cases e : j = i
    · subst e; simp [Array.getD, hs, hlt]
    · have e' : (j == i) = false := by simp [e]
      rw [e', Bool.false_or, <- hd j]
      simp only [Array.getD_eq_getD_getElem?, Array.getElem?_setIfInBounds]
      rw [if_neg (fun x => e x.symm)]
def exOf : Exit -> Option Ex
  | .normal => some .nrm
  | .exit id => some (.ext id)
  | .ret => some .ret
  | _ => none
def CPost (P : Program) (nt base : Nat) (g : Gh) (σ : St) (h : World) (Q : Ex -> Env -> St -> Prop) (e : Exit) (a : Act) (w : World) : Prop :=
  ∃ x, exOf e = some x /\ LKs P nt base g σ h (Q x) a w
def AWc (P : Program) (ro : Option Nat) (nt : Nat) (c : Code) (Q : Ex -> Env -> St -> Prop) (ρ : Env) (σ : St) : Prop :=
  (∃ x ρ' σ', Q x ρ' σ') /\ ∀ (base : Nat) (g : Gh) (a : Act) (w : World), Rel P g σ w.heap -> ER g σ w nt ρ a.tmps -> Mk base g σ w.heap a.defers -> base <= w.heap.size ->
    c.wpIn (Fc ro) 0 P (CPost P nt base g σ w Q) a w
def AW (P : Program) (ro : Option Nat) (nt : Nat) (ac : ACode) (Q : Ex -> Env -> St -> Prop) (ρ : Env) (σ : St) : Prop :=
  ∀ c, cCode P nt c = ac -> AWc P ro nt c Q ρ σ
def thn (K : Env -> St -> Prop) (Q : Ex -> Env -> St -> Prop) : Ex -> Env -> St -> Prop
  | .nrm, ρ, σ => K ρ σ
  | x, ρ, σ => Q x ρ σ
def inBl (id : Nat) (Q : Ex -> Env -> St -> Prop) : Ex -> Env -> St -> Prop
  | .ext i, ρ, σ => if i = id then Q .nrm ρ σ else Q (.ext i) ρ σ
  | x, ρ, σ => Q x ρ σ
variable {ro : Option Nat} {Q : Ex -> Env -> St -> Prop} {ρ : Env} {σ : St}
theorem CPost.trans {g g' : Gh} {σ σ' : St} {h h' : World} (e : EvoW g σ h g' σ' h') {x : Exit} {a : Act} {w : World} (p : CPost P nt base g' σ' h' Q x a w) : CPost P nt base g σ h Q x a w :=
  let ⟨y, h1, h2⟩ := p; ⟨y, h1, h2.trans e⟩
theorem CPost.mono {g : Gh} {σ : St} {h : World} {Q' : Ex -> Env -> St -> Prop} (hq : ∀ x ρ σ, Q x ρ σ -> Q' x ρ σ) {x : Exit} {a : Act} {w : World} (p : CPost P nt base g σ h Q x a w) : CPost P nt base g σ h Q' x a w :=
  let ⟨y, h1, ρ', σ', g', h2, h3⟩ := p; ⟨y, h1, ρ', σ', g', hq _ _ _ h2, h3⟩
theorem AWc.mono {c : Code} {Q' : Ex -> Env -> St -> Prop} (h : AWc P ro nt c Q ρ σ) (hq : ∀ x ρ σ, Q x ρ σ -> Q' x ρ σ) : AWc P ro nt c Q' ρ σ :=
  ⟨let ⟨x, ρ', σ', h⟩ := h.1; ⟨x, ρ', σ', hq _ _ _ h⟩, fun base g a w r er mk hb => wpIn_mono (h.2 base g a w r er mk hb) fun _ _ _ p => p.mono hq⟩
theorem AW.mono {c : ACode} {Q' : Ex -> Env -> St -> Prop} (h : AW P ro nt c Q ρ σ) (hq : ∀ x ρ σ, Q x ρ σ -> Q' x ρ σ) : AW P ro nt c Q' ρ σ := fun c hc => (h c hc).mono hq
inductive CCI (P : Program) (nt : Nat) : Code -> ACode -> Prop
  | skip : CCI P nt .skip .skip
  | label (l) : CCI P nt (.label l) .skip
  | seq (a b) : CCI P nt (.seq a b) (.seq (cCode P nt a) (cCode P nt b))
  | cond (c c' a b) (h : cOpd nt c = some c') : CCI P nt (.cond c a b) (.cond c' (cCode P nt a) (cCode P nt b))
  | block (id a) : CCI P nt (.block id a) (.block id (cCode P nt a))
  | loop (a) : CCI P nt (.loop a) (.loop (cCode P nt a))
  | scope (a) : CCI P nt (.scope a) (.scope (cCode P nt a))
  | exit (id) : CCI P nt (.exit id) (.exit id)
  | ret : CCI P nt .ret .ret
  | rg (id ops d) (hok : okDst nt ops.toList = true) (hc : d = true -> calm (ops.toList.map (cInstr P nt ops)) (depsOf ops.toList) = true) : CCI P nt (.region id ops d) (.rg (ops.toList.map (cInstr P nt ops)))
  | qrg (id ops) (hok : okDst nt ops.toList = true) : CCI P nt (.region id ops true) (.qrg (ops.toList.map (cInstr P nt ops)) (depsOf ops.toList))
  | rf (f f' ps a b) (hf : cOpd nt f = some f') (hp : ps.toList.all (· < nt) = true) : CCI P nt (.rangeFunc f ps a b) (.rf f' ps.toList (cCode P nt a) (cCode P nt b))
  | bad (c) : CCI P nt c .bad
theorem cCode_inv {c : Code} {ac : ACode} (h : cCode P nt c = ac) : CCI P nt c ac := by
  subst h
  cases c with
  | skip => exact .skip
  | label l => exact .label l
  | seq a b => exact .seq a b
  | block id a => exact .block id a
  | loop a => exact .loop a
  | scope a => exact .scope a
  | exit id => exact .exit id
  | ret => exact .ret
  | cond c a b =>
    cases hc : cOpd nt c with
    | none => simp only [cCode, hc]; exact .bad _
    | some c' => simp only [cCode, hc]; exact .cond c c' a b hc
  | region id ops d =>
    by_cases hok : okDst nt ops.toList = true
    · by_cases hd : d = true
      · subst hd
        by_cases hc : calm (ops.toList.map (cInstr P nt ops)) (depsOf ops.toList) = true
        · simp only [cCode, hok, hc, if_true]; exact .rg id ops true hok fun _ => hc
        · simp only [cCode, hok, hc, if_true]; exact .qrg id ops hok
      · have hd : d = false := by simpa using hd
        subst hd
        have e : cCode P nt (.region id ops false) = .rg (ops.toList.map (cInstr P nt ops)) := by simp [cCode, hok]
        rw [e]; exact .rg id ops false hok fun e => by cases e
    · simp only [cCode, hok]; exact .bad _
  | rangeFunc f ps a b =>
    cases hf : cOpd nt f with
    | none => simp only [cCode, hf]; exact .bad _
    | some f' =>
      by_cases hp : ps.toList.all (· < nt) = true
      · simp only [cCode, hf, hp, if_true]; exact .rf f f' ps a b hf hp
      · simp only [cCode, hf, hp]; exact .bad _
  | goto l => exact .bad _
  | refuse w => exact .bad _
theorem post_of {g : Gh} {w : World} {a : Act} {x : Exit} {y : Ex} (hx : exOf x = some y) (h : Q y ρ σ) (r : Rel P g σ w.heap) (er : ER g σ w nt ρ a.tmps) (mk : Mk base g σ w.heap a.defers) : CPost P nt base g σ w Q x a w :=
  ⟨y, hx, ρ, σ, g, h, r, er, EvoW.refl _ _ _, mk⟩
theorem AW.skip (h : Q .nrm ρ σ) : AW P ro nt .skip Q ρ σ := by
  intro c hc
  refine ⟨⟨_, _, _, h⟩, fun base g a w r er mk hb => ?_⟩
  cases cCode_inv hc with
  | skip => exact wpIn_skip (post_of rfl h r er mk)
  | label l => exact wpIn_label (post_of rfl h r er mk)
theorem AW.exit {id : Nat} (h : Q (.ext id) ρ σ) : AW P ro nt (.exit id) Q ρ σ := by
  intro c hc
  refine ⟨⟨_, _, _, h⟩, fun base g a w r er mk hb => ?_⟩
  cases cCode_inv hc with
  | exit => exact wpIn_exit (post_of rfl h r er mk)
theorem AW.ret (h : Q .ret ρ σ) : AW P ro nt .ret Q ρ σ := by
  intro c hc
  refine ⟨⟨_, _, _, h⟩, fun base g a w r er mk hb => ?_⟩
  cases cCode_inv hc with
  | ret => exact wpIn_ret (post_of rfl h r er mk)
theorem exOf_nrm {e : Exit} (h : exOf e = some .nrm) : e = .normal := by cases e <;> simp [exOf] at h ⊢
theorem exOf_ext {e : Exit} {i : Nat} (h : exOf e = some (.ext i)) : e = .exit i := by cases e <;> simp [exOf] at h ⊢ <;> exact h
theorem exOf_ret {e : Exit} (h : exOf e = some .ret) : e = .ret := by cases e <;> simp [exOf] at h ⊢
theorem AW.seq {x y : ACode} (h : AW P ro nt x (thn (AW P ro nt y Q) Q) ρ σ) : AW P ro nt (.seq x y) Q ρ σ := by
  intro c hc
  cases cCode_inv hc with
  | seq a b =>
    have h := h a rfl
    refine ⟨?_, fun base g a' w r er mk hb => wpIn_seq (wpIn_mono (h.2 base g a' w r er mk hb) fun e a1 w1 p => ?_)⟩
    · obtain ⟨x, ρ', σ', hx⟩ := h.1
      cases x with
      | nrm => exact (hx b rfl).1
      | ext i => exact ⟨_, _, _, hx⟩
      | ret => exact ⟨_, _, _, hx⟩
    · obtain ⟨x, hx, ρ1, σ1, g1, hq, r1, er1, e1, mk1⟩ := p
      cases x with
      | nrm =>
        have := exOf_nrm hx
        subst this
        exact wpIn_mono ((hq b rfl).2 base g1 a1 w1 r1 er1 mk1 (Nat.le_trans hb e1.esz)) fun _ _ _ p => p.trans e1
      | ext i =>
        have := exOf_ext hx
        subst this
        exact ⟨_, hx, ρ1, σ1, g1, hq, r1, er1, e1, mk1⟩
      | ret =>
        have := exOf_ret hx
        subst this
        exact ⟨_, hx, ρ1, σ1, g1, hq, r1, er1, e1, mk1⟩
theorem AW.cond {c : Opd} {x y : ACode} {t : Bool} (ht : c.ev ρ = .bool t) (h : AW P ro nt (if t then x else y) Q ρ σ) : AW P ro nt (.cond c x y) Q ρ σ := by
  intro cc hc
  cases cCode_inv hc with
  | cond c0 c' a b hc0 =>
    have h : AWc P ro nt (if t then a else b) Q ρ σ := by
      cases t
      · exact h b rfl
      · exact h a rfl
    refine ⟨h.1, fun base g a' w r er mk hb => ?_⟩
    have hv := cOpd_vr er hc0
    rw [ht] at hv
    have hev : a'.eval c0 = .bool t := by
      rw [act_eval]
      generalize evc a'.tmps c0 = v at hv
      cases hv; rfl
    exact wpIn_cond hev (h.2 base g a' w r er mk hb)
theorem AW.block {id : Nat} {x : ACode} (h : AW P ro nt x (inBl id Q) ρ σ) : AW P ro nt (.block id x) Q ρ σ := by
  intro c hc
  cases cCode_inv hc with
  | block _ a =>
    have h := h a rfl
    refine ⟨?_, fun base g a' w r er mk hb => wpIn_block (wpIn_mono (h.2 base g a' w r er mk hb) fun e a1 w1 p => ?_)⟩
    · obtain ⟨x, ρ', σ', hx⟩ := h.1
      cases x with
      | nrm => exact ⟨_, _, _, hx⟩
      | ext i =>
        simp only [inBl] at hx
        split at hx
        · exact ⟨_, _, _, hx⟩
        · exact ⟨_, _, _, hx⟩
      | ret => exact ⟨_, _, _, hx⟩
    · obtain ⟨x, hx, ρ1, σ1, g1, hq, r1, er1, e1, mk1⟩ := p
      cases x with
      | nrm =>
        have := exOf_nrm hx
        subst this
        exact ⟨_, hx, ρ1, σ1, g1, hq, r1, er1, e1, mk1⟩
      | ext i =>
        have := exOf_ext hx
        subst this
        simp only [inBl] at hq
        simp only [Exit.inBlock]
        split at hq
        · rename_i e; rw [if_pos e]; exact ⟨_, rfl, ρ1, σ1, g1, hq, r1, er1, e1, mk1⟩
        · rename_i e; rw [if_neg e]; exact ⟨_, hx, ρ1, σ1, g1, hq, r1, er1, e1, mk1⟩
      | ret =>
        have := exOf_ret hx
        subst this
        exact ⟨_, hx, ρ1, σ1, g1, hq, r1, er1, e1, mk1⟩
theorem AW.rg {is : List AInstr} (hm : P.follows .mixedOrders = true) (h : AL P is (fun ρ σ => Q .nrm ρ σ) ρ σ) : AW P ro nt (.rg is) Q ρ σ := by
  intro c hc
  refine ⟨let ⟨_, _, h⟩ := AL_some h; ⟨_, _, _, h⟩, fun base g a w r er mk hb => ?_⟩
  cases cCode_inv hc with
  | rg id ops d hok hcalm =>
    have hQ : ∀ (w' : World), w'.heap = w.heap -> w'.os = w.os -> w'.output = w.output -> ∀ a' w1, LKs P nt base g σ w' (fun ρ σ => Q .nrm ρ σ) a' w1 -> CPost P nt base g σ w Q .normal a' w1 := fun w' hw ho hu a' w1 ⟨ρ', σ', g', k1, k2, k3, k4, k5⟩ => ⟨.nrm, rfl, ρ', σ', g', k1, k2, k3, ⟨hw ▸ k4.toEvo, k4.os.trans ho, k4.out.trans hu⟩, k5⟩
    cases d with
    | false =>
      refine wpIn_region (al_sound hok (List.range ops.size) g σ w ρ a (fun i hi => List.mem_range.1 hi) r er mk (hQ w rfl rfl rfl) ?_)
      have : ops.size = (ops.toList.map (cInstr P nt ops)).length := by simp
      rw [this, range_map]; exact h
    | true =>
      refine wpIn_region_any hm (any_sound hok ops.size _ (fun _ => false) g σ { w with drawn := w.drawn + 1 } ρ a (by simp) (fun j => by simp [Array.getD_eq_getD_getElem?, Array.getElem?_replicate]; split <;> rfl) r ⟨er.size, er.vr⟩ mk (hQ _ rfl rfl rfl) ?_)
      have h1 := calm_any (P := P) (is := ops.toList.map (cInstr P nt ops)) (deps := depsOf ops.toList) (by simp [depsOf]) (hcalm rfl) (K := fun ρ σ => Q .nrm ρ σ) ops.size 0 ρ σ (by simp) (by simpa using h)
      have e : (fun x => decide (x < 0)) = (fun _ : Nat => false) := by funext x; simp
      rw [e] at h1; exact h1
theorem AW.qrg {is : List AInstr} {deps : List (List Nat)} (hm : P.follows .mixedOrders = true) (hx : ∃ ρ' σ', Q .nrm ρ' σ') (h : AnyA P is deps (fun ρ σ => Q .nrm ρ σ) is.length (fun _ => false) ρ σ) : AW P ro nt (.qrg is deps) Q ρ σ := by
  intro c hc
  refine ⟨let ⟨_, _, h⟩ := hx; ⟨_, _, _, h⟩, fun base g a w r er mk hb => ?_⟩
  cases cCode_inv hc with
  | qrg id ops hok =>
    have hQ : ∀ (w' : World), w'.heap = w.heap -> w'.os = w.os -> w'.output = w.output -> ∀ a' w1, LKs P nt base g σ w' (fun ρ σ => Q .nrm ρ σ) a' w1 -> CPost P nt base g σ w Q .normal a' w1 := fun w' hw ho hu a' w1 ⟨ρ', σ', g', k1, k2, k3, k4, k5⟩ => ⟨.nrm, rfl, ρ', σ', g', k1, k2, k3, ⟨hw ▸ k4.toEvo, k4.os.trans ho, k4.out.trans hu⟩, k5⟩
    refine wpIn_region_any hm (any_sound hok ops.size _ (fun _ => false) g σ { w with drawn := w.drawn + 1 } ρ a (by simp) (fun j => by simp [Array.getD_eq_getD_getElem?, Array.getElem?_replicate]; split <;> rfl) r ⟨er.size, er.vr⟩ mk (hQ _ rfl rfl rfl) ?_)
    have : ops.size = (ops.toList.map (cInstr P nt ops)).length := by simp
    rw [this]; exact h
end Go.Proofs.YtekhblefchceaaaGreat.AM

/- Loops, the ends of functions, ranges over functions. -/
namespace Go.Proofs.YtekhblefchceaaaGreat.AM
open Go
variable {P : Program} {nt base : Nat} {ro : Option Nat} {Q : Ex -> Env -> St -> Prop} {ρ : Env} {σ : St}
theorem AW.loop {x : ACode} (I : Nat -> Env -> St -> Prop) (k : Nat) (h0 : I k ρ σ) (round : ∀ k ρ σ, I k ρ σ -> AW P ro nt x (thn (fun ρ' σ' => ∃ k', k' < k /\ I k' ρ' σ') Q) ρ σ) : AW P ro nt (.loop x) Q ρ σ := by
  intro c hc
  cases cCode_inv hc with
  | loop a =>
    refine ⟨?_, fun base g a0 w r er mk hb => ?_⟩
    · have key : ∀ k ρ σ, I k ρ σ -> ∃ x ρ' σ', Q x ρ' σ' := by
        intro k
        induction k using Nat.strongRecOn with
        | _ k ih =>
          intro ρ σ hI
          obtain ⟨x, ρ', σ', hx⟩ := (round k ρ σ hI a rfl).1
          cases x with
          | nrm => obtain ⟨k', hk, hI'⟩ := hx; exact ih k' hk ρ' σ' hI'
          | ext i => exact ⟨_, _, _, hx⟩
          | ret => exact ⟨_, _, _, hx⟩
      exact key k ρ σ h0
    · intro b kk cs hro hb' hr
      have key : ∀ k ρ' σ' g' a' w', I k ρ' σ' -> Rel P g' σ' w'.heap -> ER g' σ' w' nt ρ' a'.tmps -> EvoW g σ w g' σ' w' -> Mk base g' σ' w'.heap a'.defers ->
          ∃ e a'' w'', CPost P nt base g σ w Q e a'' w'' /\ ArrivesIn (Machine.fenced P (Fc ro)) P (lone (b.atR a' (.code a :: .inLoop a :: kk)) cs w') b kk cs e a'' w'' := by
        intro k
        induction k using Nat.strongRecOn with
        | _ k ih =>
          intro ρ' σ' g' a' w' hI r' er' e' mk'
          obtain ⟨e, a1, w1, ⟨x, hx, ρ1, σ1, g1, hq, r1, er1, e1, mk1⟩, harr⟩ := (round k ρ' σ' hI a rfl).2 base g' a' w' r' er' mk' (Nat.le_trans hb e'.esz) b (.inLoop a :: kk) cs hro hb' hr
          cases x with
          | nrm =>
            have := exOf_nrm hx
            subst this
            obtain ⟨k', hk, hI'⟩ := hq
            obtain ⟨e2, a2, w2, hq2, harr2⟩ := ih k' hk ρ1 σ1 g1 a1 w1 hI' r1 er1 (e'.trans e1) mk1
            exact ⟨e2, a2, w2, hq2, .of_steps (StepsIn.trans harr (.one (fenced_calm hb' hr rfl) stepR_inLoop)) harr2⟩
          | ext i =>
            have := exOf_ext hx
            subst this
            exact ⟨_, a1, w1, ⟨_, hx, ρ1, σ1, g1, hq, r1, er1, e'.trans e1, mk1⟩, .pass (x := .inLoop a) rfl (fun _ _ => .inl (by simp)) harr⟩
          | ret =>
            have := exOf_ret hx
            subst this
            exact ⟨_, a1, w1, ⟨_, hx, ρ1, σ1, g1, hq, r1, er1, e'.trans e1, mk1⟩, .pass (x := .inLoop a) rfl (fun _ _ => .inl (by simp)) harr⟩
      obtain ⟨e, a', w', hq, harr⟩ := key k ρ σ g a0 w h0 r er (EvoW.refl _ _ _) mk
      exact ⟨e, a', w', hq, .of_steps (.one (fenced_calm hb' hr rfl) stepR_loop) harr⟩
section steps
variable {b : Frame} {a : Act} {k : List Item} {cs : List Frame} {w : World}
theorem stepR_scope {c : Code} : step P (lone (b.atR a (.code (.scope c) :: k)) cs w) = .next (lone (b.atR a (.code c :: .inScope c :: k)) cs w) :=
  step_lone_go (by simp [stepG, stepG.exec, Frame.atR])
theorem stepR_inScope {c : Code} : step P (lone (b.atR a (.inScope c :: k)) cs w) = .next (lone (b.atR a k) cs w) :=
  step_lone_go (by simp [stepG, stepG.exec, Frame.atR])
end steps
theorem AW.scope {x : ACode} (h : AW P ro nt x Q ρ σ) : AW P ro nt (.scope x) Q ρ σ := by
  intro c hc
  cases cCode_inv hc with
  | scope a =>
    have h := h a rfl
    refine ⟨h.1, fun base g a0 w r er mk hb => ?_⟩
    intro b k cs hro hb' hr
    have h0 : (lone (b.atR a0 (.code (.scope a) :: k)) cs w).fenced P (Fc ro) := fenced_calm hb' hr rfl
    obtain ⟨e, a1, w1, ⟨x, hx, hq⟩, harr⟩ := h.2 base g a0 w r er mk hb b (.inScope a :: k) cs hro hb' hr
    have hex : ∀ i, exitTo i (.inScope a :: k) = exitTo i k := fun i => by simp [exitTo]
    cases x with
    | nrm =>
      have := exOf_nrm hx
      subst this
      exact ⟨.normal, a1, w1, ⟨_, rfl, hq⟩, .head h0 stepR_scope (StepsIn.trans harr (.one (fenced_calm hb' hr rfl) stepR_inScope))⟩
    | ext i =>
      have := exOf_ext hx
      subst this
      exact ⟨.exit i, a1, w1, ⟨_, rfl, hq⟩, fun k' hk => .head h0 stepR_scope (harr.1 k' (by rw [hex]; exact hk)),
        fun hr' hk => let ⟨k₁, h1, h2⟩ := harr.2 hr' (by rw [hex]; exact hk); ⟨k₁, h1, .head h0 stepR_scope h2⟩⟩
    | ret =>
      have := exOf_ret hx
      subst this
      exact ⟨.ret, a1, w1, ⟨_, rfl, hq⟩, .of_steps (.one h0 stepR_scope) harr⟩
theorem hc_poke {w : World} {r : Nat} {o o' : Obj} (ho : w.heap[r]? = some o) (hn : ∀ c e z, o ≠ .cells c e z) (hn' : ∀ c e z, o' ≠ .cells c e z) (b i : Nat) : hc (w.putObj r o').heap b i = hc w.heap b i := by
  have hr : r < w.heap.size := (Array.getElem?_eq_some_iff.1 ho).1
  unfold hc
  by_cases e : b = r
  · subst e
    rw [World.putObj_heap_same hr, ho]
    cases o with
    | cells c e z => exact absurd rfl (hn c e z)
    | _ => cases o' with
      | cells c e z => exact absurd rfl (hn' c e z)
      | _ => rfl
  · rw [World.putObj_heap_other e]
theorem rel_poke {g : Gh} {w : World} {r : Nat} {o o' : Obj} (rl : Rel P g σ w.heap) (hd : DO g σ.H w.heap r o) (hn : ∀ c e z, o ≠ .cells c e z) (hn' : ∀ c e z, o' ≠ .cells c e z) :
    Rel P g σ (w.putObj r o').heap /\ KC w.heap (w.putObj r o').heap /\ (∀ b i v, IC g σ.H w.heap b i v -> IC g σ.H (w.putObj r o').heap b i v) /\ (∀ r' o2, r' ≠ r -> DO g σ.H w.heap r' o2 -> DO g σ.H (w.putObj r o').heap r' o2) := by
  obtain ⟨ho, hbl⟩ := hd
  have ic : ∀ b i v, IC g σ.H w.heap b i v -> IC g σ.H (w.putObj r o').heap b i v := fun b i v ⟨h1, h2⟩ => ⟨by rw [hc_poke ho hn hn']; exact h1, h2⟩
  have kc : KC w.heap (w.putObj r o').heap := fun b c e z hc => by
    by_cases e1 : b = r
    · subst e1; rw [ho] at hc; simp only [Option.some.injEq] at hc; exact absurd hc (hn _ _ _)
    · exact ⟨c, z, by rw [World.putObj_heap_other e1]; exact hc, rfl⟩
  refine ⟨⟨rl.lt, rl.inj, fun β k hk => ?_⟩, kc, ic, fun r' o2 hne ⟨h1, h3⟩ => ⟨by rw [World.putObj_heap_other hne]; exact h1, h3⟩⟩
  rw [World.putObj_heap_other (hbl β k hk)]
  exact (rl.blk β k hk).mono (Nat.le_refl _) (g.le_refl _) (rl.lt β k hk) ic
theorem resOf_sound {g : Gh} {w : World} {tm : Array Value} (r : Rel P g σ w.heap) (er : ER g σ w nt ρ tm) : ∀ (xs : List ResultVar) (rs : List RV) (l : List AV), cRes P xs = some rs ->
    (xs.all fun x => match x with | .tmp t => decide (t < nt) | .cell t _ => decide (t < nt)) = true -> resOf ρ σ rs = some l ->
    ∃ vs : List Value, (xs.mapM fun x => match x with
      | .tmp t => pure (tm.getD t Go.undef)
      | .cell a t => do loadVar t (<- asAddr (tm.getD a Go.undef)) : Sem (List Value)).run P w = .ok vs w /\ VRL g σ w l vs
  | [], rs, l, h, _, hl => by
    simp [cRes] at h; subst h
    simp [resOf] at hl; subst hl
    exact ⟨[], by simp [Sem.run_pure], rfl, fun i x c h => by simp at h⟩
  | .tmp t :: xs, rs, l, h, ha, hl => by
    simp only [cRes, Option.map_eq_some_iff] at h
    obtain ⟨rs', h1, rfl⟩ := h
    simp only [resOf, Option.map_eq_some_iff] at hl
    obtain ⟨l', h2, rfl⟩ := hl
    simp only [List.all_cons, Bool.and_eq_true, decide_eq_true_eq] at ha
    obtain ⟨vs, h3, h4, h5⟩ := resOf_sound r er xs rs' l' h1 ha.2 h2
    refine ⟨tm.getD t Go.undef :: vs, ?_, by simp [h4], fun i x c hx hc => ?_⟩
    · simp only [List.mapM_cons, Sem.run_bind, Sem.run_pure, Result.andThen_ok, h3]
    · cases i with
      | zero =>
        simp only [List.getElem?_cons_zero, Option.some.injEq] at hx hc
        subst hx; subst hc; exact er.vr t ha.1
      | succ i => exact h5 i x c (by simpa using hx) (by simpa using hc)
  | .cell a t :: xs, rs, l, h, ha, hl => by
    simp only [cRes] at h
    split at h
    · rename_i ag s rs' hag hs h1
      simp only [Option.some.injEq] at h
      subst h
      simp only [resOf] at hl
      split at hl
      · rename_i v σ' l' hv h2
        simp only [Option.some.injEq] at hl
        subst hl
        simp only [List.all_cons, Bool.and_eq_true, decide_eq_true_eq] at ha
        obtain ⟨vs, h3, h4, h5⟩ := resOf_sound r er xs rs' l' h1 ha.2 h2
        obtain ⟨ad, cv, had, hrun, hvr, _⟩ := load_at (P := P) (w := w) (t := t) (ρ := ρ) (y := .t a) rfl r (er.vr a ha.1) hag hs hv
        refine ⟨cv :: vs, ?_, by simp [h4], fun i x c hx hc => ?_⟩
        · have hpa : asAddr (.pointer (some ad)) = pure ad := rfl
          simp only [List.mapM_cons, Sem.run_bind, had, hpa, Sem.run_pure, Result.andThen_ok, hrun, h3]
        · cases i with
          | zero =>
            simp only [List.getElem?_cons_zero, Option.some.injEq] at hx hc
            subst hx; subst hc; exact hvr
          | succ i => exact h5 i x c (by simpa using hx) (by simpa using hc)
      · simp at hl
    · simp at h
theorem results_sound {fn : Func} {g : Gh} {w : World} {tm : Array Value} (r : Rel P g σ w.heap) (er : ER g σ w nt ρ tm) {rs : List RV} {l : List AV} (h : cRes P fn.results.toList = some rs)
    (ha : (fn.results.toList.all fun x => match x with | .tmp t => decide (t < nt) | .cell t _ => decide (t < nt)) = true) (hl : resOf ρ σ rs = some l) :
    ∃ cv, (results fn tm).run P w = .ok cv w /\ VRs g σ w (resAV l) cv := by
  obtain ⟨vs, h1, h2, h3⟩ := resOf_sound r er _ _ _ h ha hl
  have hm : (fn.results.mapM fun x => match x with
      | .tmp t => pure (tm.getD t Go.undef)
      | .cell a t => do loadVar t (<- asAddr (tm.getD a Go.undef)) : Sem (Array Value)).run P w = .ok vs.toArray w := by
    rw [Array.mapM_eq_mapM_toList]
    simp only [map_eq_pure_bind, Sem.run_bind, h1, Result.andThen_ok, Sem.run_pure]
  refine ⟨if h : vs.toArray.size = 1 then vs.toArray[0] else .tuple vs.toArray, ?_, ?_⟩
  · have e : results fn tm = ((fn.results.mapM fun x => match x with
      | .tmp t => pure (tm.getD t Go.undef)
      | .cell a t => do loadVar t (<- asAddr (tm.getD a Go.undef)) : Sem (Array Value)) >>= fun vs => pure (if h : vs.size = 1 then vs[0] else .tuple vs)) := rfl
    rw [e, Sem.run_bind, hm, Result.andThen_ok, Sem.run_pure]
  · match l, vs, h2, h3 with
    | [v], [c], _, h3 => exact h3 0 v c rfl rfl
    | [], [], _, h3 => exact .tup [] #[] rfl (fun i x c h => by simp at h)
    | a :: b :: l, c :: d :: vs, h2, h3 =>
      have : ¬ (c :: d :: vs).toArray.size = 1 := by simp
      rw [dif_neg this]
      exact .tup _ _ (by simpa using h2) (fun i x c h4 h5 => h3 i x c h4 (by simpa using h5))
def FPost (rs : List RV) (K : AV -> St -> Prop) (x : Ex) (ρ : Env) (σ : St) : Prop :=
  match x with
  | .ext _ => False
  | _ => ∃ l, resOf ρ σ rs = some l /\ K (resAV l) σ
theorem cFunc_inv {fn : Func} {af : AFunc} (h : cFunc P fn = some af) : ∃ b, fn.body = some b /\ cRes P fn.results.toList = some af.res /\
    (fn.results.toList.all fun x => match x with | .tmp t => decide (t < fn.ntmps) | .cell t _ => decide (t < fn.ntmps)) = true /\ af.nt = fn.ntmps /\ af.body = cCode P fn.ntmps b := by
  unfold cFunc at h
  split at h
  · rename_i b r hb hr
    split at h
    · rename_i hall
      simp only [Option.some.injEq] at h
      subst h
      exact ⟨b, hb, hr, hall, rfl, rfl⟩
    · simp at h
  · simp at h
theorem vrl_env {g : Gh} {w : World} {args : List AV} {cargs : List Value} (h : VRL g σ w args cargs) (hn : args.length <= nt) :
    ER g σ w nt (envOf args) (cargs.toArray ++ Array.replicate (nt - cargs.toArray.size) Go.undef) := by
  have hl := h.1
  refine ⟨by simp; omega, fun i hi => ?_⟩
  by_cases hlt : i < args.length
  · have h1 : args[i]? = some args[i] := List.getElem?_eq_getElem hlt
    have h2 : cargs[i]? = some (cargs[i]'(by omega)) := List.getElem?_eq_getElem (by omega)
    have := h.2 i _ _ h1 h2
    simp only [envOf, List.getD, h1, Option.getD_some, Array.getD_eq_getD_getElem?]
    rw [Array.getElem?_append_left (by simp; omega)]
    simp only [List.getElem?_toArray, h2, Option.getD_some]
    exact this
  · have h1 : args[i]? = none := List.getElem?_eq_none (by omega)
    simp only [envOf, List.getD, h1, Option.getD_none, Array.getD_eq_getD_getElem?]
    rw [Array.getElem?_append_right (by simp; omega), Array.getElem?_replicate]
    rw [if_pos (by simp; omega)]
    exact vr_nil g σ w
theorem marks_go {fn : Func} {tm : Array Value} {g : Gh} {base : Nat} {R : Ending -> World -> Prop} : ∀ (ds : List Deferred) (w : World), Rel P g σ w.heap -> Mk base g σ w.heap ds ->
    (∀ w', Rel P g σ w'.heap -> KC w.heap w'.heap -> (∀ b i v, IC g σ.H w.heap b i v -> IC g σ.H w'.heap b i v) -> w'.heap.size = w.heap.size -> (∀ b, b < base -> w'.heap[b]? = w.heap[b]?) -> w'.os = w.os -> w'.output = w.output -> ∃ v, (results fn tm).run P w' = .ok v w' /\ R (.returned v) w') ->
    LeavesInM (Fc none) 0 P fn tm R ds .returning w
  | [], w, r, mk, h => by
    obtain ⟨v, h1, h2⟩ := h w r (KC.refl _) (fun _ _ _ h => h) rfl (fun _ _ => rfl) rfl rfl
    exact ⟨v, h1, h2⟩
  | d :: ds, w, r, mk, h => by
    obtain ⟨mk1, mk2⟩ := mk
    obtain ⟨x, hd, hx, hdo⟩ := mk1 d (by simp)
    rw [List.nodup_cons] at mk2
    obtain ⟨r', kc', ic', do'⟩ := rel_poke (o' := .deferred none) r hdo (by simp) (by simp)
    refine ⟨by simp, .inl ⟨x, w.putObj x (.deferred none), by rw [hd], run_takeDeferred hdo.1, ?_⟩⟩
    refine marks_go (base := base) ds _ r' ⟨fun d' hd' => ?_, mk2.2⟩ fun w' r1 kc1 ic1 hs1 hb1 ho1 hu1 => ?_
    · obtain ⟨y, h1, h2, h3⟩ := mk1 d' (by simp [hd'])
      refine ⟨y, h1, h2, do' y _ (fun e => ?_) h3⟩
      subst e
      exact mk2.1 (by rw [hd, <- h1]; exact hd')
    · refine h w' r1 (kc'.trans kc1) (fun b i v hi => ic1 b i v (ic' b i v hi)) (by rw [hs1, World.putObj_size]) (fun b hb => ?_) (ho1.trans rfl) (hu1.trans rfl)
      rw [hb1 b hb, World.putObj_heap_other (by omega)]
theorem afun {f : Nat} {fn : Func} {af : AFunc} {args : List AV} {K : AV -> St -> Prop} (hf : P.funcs[f]? = some fn) (hn : (fn.name == "runtime.NumGoroutine") = false) (hc : cFunc P fn = some af)
    (hl : args.length <= af.nt) (h : AW P none af.nt af.body (FPost af.res K) (envOf args) σ) : ACalls P f args σ K := by
  obtain ⟨b, hb, hres, hall, hnt, hbody⟩ := cFunc_inv hc
  rw [hnt] at h hl
  have h := h b hbody.symm
  refine ⟨⟨fn, hf, hn, by rw [hb]; rfl⟩, ?_, fun g w cargs r hvl => ?_⟩
  · obtain ⟨x, ρ', σ', hx⟩ := h.1
    cases x with
    | ext i => exact hx.elim
    | nrm => obtain ⟨l, _, hk⟩ := hx; exact ⟨_, _, hk⟩
    | ret => obtain ⟨l, _, hk⟩ := hx; exact ⟨_, _, hk⟩
  · refine callsIn_of_wp_marks hf hb trivial (wpIn_mono (h.2 w.heap.size g ⟨_, []⟩ w r (vrl_env hvl hl) ⟨fun d hd => by simp at hd, List.nodup_nil⟩ (Nat.le_refl _)) fun e a w' p => ?_)
    obtain ⟨x, hx, ρ', σ', g', hq, r', er', e', mk'⟩ := p
    have fin : (∃ l, resOf ρ' σ' af.res = some l /\ K (resAV l) σ') -> LeavesInM (Fc none) 0 P fn a.tmps (RetPost P g σ w K) a.defers .returning w' := by
      rintro ⟨l, hl, hk⟩
      refine marks_go (base := w.heap.size) a.defers w' r' mk' fun w2 r2 kc2 ic2 hs2 hb2 ho2 hu2 => ?_
      have er2 : ER g' σ' w2 fn.ntmps ρ' a.tmps := ⟨er'.size, fun i hi => (er'.vr i hi).mono (Nat.le_refl _) (g'.le_refl _) ic2⟩
      obtain ⟨cv, h1, h2⟩ := results_sound r2 er2 hres hall hl
      refine ⟨cv, h1, resAV l, σ', g', hk, r2, h2, ⟨⟨e'.en, e'.eg, fun b i v hi => ic2 _ _ _ (e'.eic b i v hi), fun b o hd => ?_, by rw [hs2]; exact e'.esz, e'.ekc.trans kc2⟩, ho2.trans e'.os, hu2.trans e'.out⟩⟩
      obtain ⟨d1, d3⟩ := e'.edo b o hd
      exact ⟨by rw [hb2 b (Array.getElem?_eq_some_iff.1 hd.1).1]; exact d1, d3⟩
    cases x with
    | ext i => exact hq.elim
    | nrm =>
      have := exOf_nrm hx
      subst this
      exact fin hq
    | ret =>
      have := exOf_ret hx
      subst this
      exact fin hq
end Go.Proofs.YtekhblefchceaaaGreat.AM

/- Ranges over functions: the statement, and one round. -/
namespace Go.Proofs.YtekhblefchceaaaGreat.AM
open Go
variable {P : Program} {nt base : Nat} {Q : Ex -> Env -> St -> Prop} {ρ : Env} {σ : St}
def St.del (σ : St) (β : Nat) : St := { σ with H := AM.del σ.H β }
theorem rel_kill {g : Gh} {w : World} {β : Nat} {k : Blk} {o o' : Obj} (r : Rel P g σ w.heap) (hk : lk σ.H β = some k) (ho : w.heap[g.bl β]? = some o) (hn : ∀ c e z, o ≠ .cells c e z) (hn' : ∀ c e z, o' ≠ .cells c e z) :
    Rel P g (σ.del β) (w.putObj (g.bl β) o').heap /\ Evo g σ w.heap g (σ.del β) (w.putObj (g.bl β) o').heap := by
  have sub : ∀ γ b, lk (AM.del σ.H β) γ = some b -> γ ≠ β /\ lk σ.H γ = some b := fun γ b h => by
    rw [lk_del] at h
    split at h
    · simp at h
    · rename_i e; exact ⟨e, h⟩
  obtain ⟨r1, e1⟩ := rel_drop (P := P) (AM.del σ.H β) σ.n (Nat.le_refl _) r (fun γ b h => (sub γ b h).2)
  have hd : DO g (AM.del σ.H β) w.heap (g.bl β) o := ⟨ho, fun γ c hc e => (sub γ c hc).1 (r.inj _ _ _ _ (sub γ c hc).2 hk e)⟩
  obtain ⟨r2, kc2, ic2, do2⟩ := rel_poke (σ := σ.del β) r1 hd hn hn'
  refine ⟨r2, Nat.le_refl _, g.le_refl _, fun b i v h => ic2 _ _ _ (e1.eic b i v h), fun b o2 h => do2 _ _ (fun e => ?_) (e1.edo b o2 h), by rw [World.putObj_size]; exact Nat.le_refl _, kc2⟩
  exact h.2 β k hk e.symm
def RfEnd (β : Nat) (Q : Ex -> Env -> St -> Prop) (ρ : Env) (σ : St) : Prop :=
  ∃ st pend ρl ps asg body, lk σ.H β = some (.loop st pend ρl ps asg body) /\ st ≠ .busy /\
    (match pend with
     | none => Q .nrm ρ (σ.del β)
     | some (.exit i) => Q (.ext i) ρ (σ.del β)
     | some .ret => Q .ret ρ (σ.del β)
     | _ => False)
theorem evl_list (ρ : Env) (nt : Nat) : ((List.range nt).map ρ).length = nt := by simp
theorem AW.rf {f : Opd} {ps : List Nat} {asg body : ACode} {gf : Nat} {cap : List AV} (hf : f.ev ρ = .fn gf cap)
    (h : (∃ a, cCode P nt a = asg) -> (∃ b, cCode P nt b = body) -> ACalls P gf (.yld σ.n :: cap) (σ.new (.loop .ready none ((List.range nt).map ρ) ps asg body)) (fun _ σ' => RfEnd σ.n Q ρ σ')) : AW P none nt (.rf f ps asg body) Q ρ σ := by
  intro c hc
  cases cCode_inv hc with
  | rf f0 _ ps a b hf0 hp =>
    have h := h ⟨a, rfl⟩ ⟨b, rfl⟩
    refine ⟨?_, fun base g a0 w r er mk hb => ?_⟩
    · obtain ⟨v, σ', st, pend, _, _, _, _, _, _, hq⟩ := h.2.1
      split at hq
      · exact ⟨_, _, _, hq⟩
      · exact ⟨_, _, _, hq⟩
      · exact ⟨_, _, _, hq⟩
      · exact hq.elim
    · have hv := cOpd_vr er hf0
      rw [hf] at hv
      obtain ⟨caps, hev, hcl, hcv⟩ : ∃ caps : Array Value, evc a0.tmps f0 = .func (.func gf) #[] caps /\ cap.length = caps.size /\ (∀ (i : Nat) (x : AV) (c : Value), cap[i]? = some x -> caps[i]? = some c -> VRs g σ w x c) := by
        generalize evc a0.tmps f0 = v at hv
        cases hv with
        | fn _ _ cs hl h => exact ⟨cs, rfl, hl, h⟩
      refine wpIn_rangeFunc fun fn _ => ?_
      let w1 : World := w.alloc (.deferred (some []))
      let L : Loop := { state := .ready, pending := none, fn, tmps := a0.tmps, params := ps, assign := a, body := b, defers := w.heap.size }
      let w2 : World := w1.alloc (.loop L)
      have r1 : Rel P g σ w1.heap := rel_push _ r
      have e1 : Evo g σ w.heap g σ w1.heap := evo_push _
      have hs1 : w1.heap.size = w.heap.size + 1 := by show (w.heap.push _).size = _; simp
      have hdo1 : DO g σ.H w1.heap w.heap.size (.deferred (some [])) := ⟨World.alloc_heap_new w _, fun β k hk e => by have := r.bl_lt hk; omega⟩
      obtain ⟨r2, e2⟩ := rel_new (P := P) (.loop L) (.loop .ready none ((List.range nt).map ρ) ps.toList (cCode P nt a) (cCode P nt b)) σ.H 0 0 r1 (fun _ _ h => h) (by
        refine ⟨L, rfl, by simp [L, er.size], fun i x v hx hv => ?_, rfl, by rw [evl_list], by rw [evl_list], rfl, trivial⟩
        have hlt : i < nt := by
          have := (List.getElem?_eq_some_iff.1 hx).1
          simpa using this
        rw [List.getElem?_map, List.getElem?_range hlt] at hx
        simp only [Option.map_some, Option.some.injEq] at hx
        subst hx
        have hv' : a0.tmps.getD i Go.undef = v := by simp [L] at hv; simp [Array.getD_eq_getD_getElem?, hv]
        rw [<- hv']
        exact (VR.evo e1 (er.vr i hlt)).mono (Nat.le_succ _) (g.le_at _ _ _ _) (fun _ _ _ h => h))
      have e12 : EvoW g σ w _ _ w2 := ⟨e1.trans e2, rfl, rfl⟩
      have hl2 : (g.at σ.n w1.heap.size 0 0).bl σ.n = w.heap.size + 1 := by simp [Gh.at, hs1]
      have hcall := h.2.2 (g.at σ.n w1.heap.size 0 0) w2 (.func (.yield (w.heap.size + 1)) #[] #[] :: caps.toList) r2 (by
        refine ⟨by simp [hcl], fun i x c hx hc => ?_⟩
        cases i with
        | zero =>
          simp only [List.getElem?_cons_zero, Option.some.injEq] at hx hc
          subst hx; subst hc
          rw [<- hl2]
          exact .yld σ.n (Nat.lt_succ_self _)
        | succ i => exact VR.evo e12.toEvo (hcv i x c (by simpa using hx) (by simpa using hc)))
      have hcok := callFunc_ok (P := P) (w := w2) (args := #[.func (.yield (w.heap.size + 1)) #[] #[]] ++ caps) h.1
      refine ⟨w.heap.size + 1, [{ target := .collected w.heap.size, args := #[] }], w2, { target := .fn (.func gf) caps, args := #[.func (.yield (w.heap.size + 1)) #[] #[]] }, w2, gf,
        #[.func (.yield (w.heap.size + 1)) #[] #[]] ++ caps, w2, ?_, ?_, fun _ _ => trivial, ?_, fun x => by simp [Fc] at x, ?_⟩
      · exact run_enterLoop_outer _ _ _ _ _
      · have : a0.eval f0 = .func (.func gf) #[] caps := by rw [act_eval]; exact hev
        simp [resolve, this, Deferred.ofValue]
        simp [Act.eval]
      · simpa [invoke] using hcok
      · have harr : (Value.func (.yield (w.heap.size + 1)) #[] #[] :: caps.toList).toArray = #[Value.func (.yield (w.heap.size + 1)) #[] #[]] ++ caps := by
          apply Array.ext'; simp
        rw [harr] at hcall
        refine hcall.mono fun e w3 hp => ?_
        cases e with
        | panicked _ => exact hp.elim
        | outgrown => exact hp.elim
        | returned cv =>
          obtain ⟨v, σ3, g3, ⟨st, pend, ρ3, ps3, asg3, body3, hk, hst, hq⟩, r3, _, e3⟩ := hp
          have hb3 : g3.bl σ.n = w.heap.size + 1 := by
            rw [(e3.eg σ.n (Nat.lt_succ_self _)).1]; exact hl2
          obtain ⟨L3, ho3, _, _, _, _, _, hst3, hpd3⟩ := r3.blk _ _ hk
          rw [hb3] at ho3
          have hnb : L3.state ≠ .busy := by cases st <;> simp_all
          have hend := run_endLoop (P := P) ho3 hnb
          obtain ⟨r4, e4⟩ := rel_kill (o' := .loop { L3 with state := .exhausted }) r3 hk (by rw [hb3]; exact ho3) (by simp) (by simp)
          rw [hb3] at r4 e4
          obtain ⟨w4, hw4⟩ : ∃ w4, w4 = w3.putObj (w.heap.size + 1) (.loop { L3 with state := .exhausted }) := ⟨_, rfl⟩
          rw [<- hw4] at hend r4 e4
          have e34 : EvoW g σ w g3 (σ3.del σ.n) w4 := (e12.trans e3).trans ⟨e4, by rw [hw4]; rfl, by rw [hw4]; rfl⟩
          have mk4 : Mk base g3 (σ3.del σ.n) w4.heap ([{ target := .collected w.heap.size, args := #[] }] ++ a0.defers) := by
            have mk' := mk.evo e34.toEvo
            have hd4 := e4.edo _ _ (e3.edo _ _ (e2.edo _ _ hdo1))
            refine ⟨fun d hd => ?_, ?_⟩
            · rcases List.mem_append.1 hd with hd | hd
              · simp only [List.mem_singleton] at hd
                exact ⟨w.heap.size, hd, hb, hd4⟩
              · exact mk'.1 d hd
            · refine List.nodup_append.2 ⟨by simp, mk.2, fun x hx y hy => ?_⟩
              simp only [List.mem_singleton] at hx
              subst hx
              intro e
              subst e
              obtain ⟨q, h1, _, h3⟩ := mk.1 _ hy
              simp only [Deferred.mk.injEq, Target.collected.injEq, and_true] at h1
              have := (Array.getElem?_eq_some_iff.1 h3.1).1
              omega
          have er4 : ER g3 (σ3.del σ.n) w4 nt ρ a0.tmps := er.evo e34.toEvo
          have post : ∀ {y : Exit} {x : Ex}, exOf y = some x -> Q x ρ (σ3.del σ.n) -> CPost P nt base g σ w Q y { a0 with defers := [{ target := .collected w.heap.size, args := #[] }] ++ a0.defers } w4 :=
            fun hx hq => ⟨_, hx, ρ, _, g3, hq, r4, er4, e34, mk4⟩
          refine ⟨L3.pending, w4, hend, ?_⟩
          generalize L3.pending = pd at hpd3 ⊢
          cases pend with
          | none =>
            cases pd with
            | none => exact post (y := .normal) rfl hq
            | some _ => exact hpd3.elim
          | some pc =>
            cases pc <;> try (exact hq.elim)
            · rename_i i
              cases pd with
              | none => exact hpd3.elim
              | some c =>
                cases c <;> try (exact hpd3.elim)
                rename_i j
                have hij : i = j := hpd3
                subst hij
                exact wpIn_exit (post (y := .exit i) rfl hq)
            · cases pd with
              | none => exact hpd3.elim
              | some c =>
                cases c <;> try (exact hpd3.elim)
                exact wpIn_ret (post (y := .ret) rfl hq)
def putAll : List Nat -> List AV -> Env -> Env
  | p :: ps, a :: as, ρ => putAll ps as (ρ.put p a)
  | _, _, ρ => ρ
theorem er_putAll {g : Gh} {w : World} {nt : Nat} : ∀ (ps : List Nat) (args : List AV) (cargs : List Value) (ρ : Env) (tm : Array Value), ER g σ w nt ρ tm -> VRL g σ w args cargs -> (∀ p, p ∈ ps -> p < nt) ->
    ER g σ w nt (putAll ps args ρ) ((ps.zip cargs).foldl (fun t (p, a) => t.setIfInBounds p a) tm)
  | [], args, cargs, ρ, tm, er, _, _ => by simpa [putAll] using er
  | p :: ps, [], [], ρ, tm, er, _, _ => by simpa [putAll] using er
  | p :: ps, [], c :: cs, ρ, tm, er, h, _ => by have := h.1; simp at this
  | p :: ps, a :: as, [], ρ, tm, er, h, _ => by have := h.1; simp at this
  | p :: ps, a :: as, c :: cs, ρ, tm, er, h, hp => by
    simp only [putAll, List.zip_cons_cons, List.foldl_cons]
    refine er_putAll ps as cs _ _ ?_ ⟨by have := h.1; simpa using this, fun i x y hx hy => h.2 (i + 1) x y (by simpa using hx) (by simpa using hy)⟩ (fun q hq => hp q (by simp [hq]))
    exact ER.put (a := ⟨tm, []⟩) (dst := some p) er (fun d hd => by cases hd; exact hp p (by simp)) (h.2 0 a c rfl rfl)
def RoundEnd (β : Nat) (K : AV -> St -> Prop) (x : Ex) (_ : Env) (σ : St) : Prop :=
  ∃ ρl ps asg body, lk σ.H β = some (.loop .busy none ρl ps asg body) /\
  match x with
  | .nrm => K (.bool true) (σ.set β (.loop .ready none ρl ps asg body))
  | .ext i => K (.bool false) (σ.set β (.loop .done (some (.exit i)) ρl ps asg body))
  | .ret => K (.bool false) (σ.set β (.loop .done (some .ret) ρl ps asg body))
theorem loop_set {g : Gh} {w : World} {β : Nat} {ρl : List AV} {ps : List Nat} {asg body : ACode} {st st' : LState} {pe pe' : Option ACode} {L : Loop} {cst : LoopState} {cpe : Option Code}
    (r : Rel P g σ w.heap) (hk : lk σ.H β = some (.loop st pe ρl ps asg body)) (ho : w.heap[g.bl β]? = some (.loop L))
    (hs : match st' with | .ready => cst = .ready | .busy => cst = .busy | .done => cst = .done)
    (hp : match pe', cpe with | none, none => True | some (.exit i), some (.exit j) => i = j | some .ret, some .ret => True | _, _ => False) :
    Rel P g (σ.set β (.loop st' pe' ρl ps asg body)) (w.putObj (g.bl β) (.loop { L with state := cst, pending := cpe })).heap /\
    Evo g σ w.heap g (σ.set β (.loop st' pe' ρl ps asg body)) (w.putObj (g.bl β) (.loop { L with state := cst, pending := cpe })).heap := by
  obtain ⟨L', ho', h1, h2, h3, h4, h5, _, _⟩ := r.blk _ _ hk
  rw [ho] at ho'
  simp only [Option.some.injEq, Obj.loop.injEq] at ho'
  subst ho'
  refine rel_set r hk (by simp) _ (by simp) _ World.putObj_size (fun b hb => World.putObj_heap_other hb) ?_ (fun c e z hc => by rw [ho] at hc; cases hc)
  rw [World.putObj_heap_same (r.bl_lt hk)]
  exact ⟨_, rfl, h1, h2, h3, h4, h5, hs, hp⟩
theorem ayield' {β : Nat} {ρl : List AV} {ps : List Nat} {asg body : ACode} {args : List AV} {K : AV -> St -> Prop} (hc : ∃ v σ', K v σ') (hk : lk σ.H β = some (.loop .ready none ρl ps asg body)) (hl : args.length = ps.length) (hps : ∀ p, p ∈ ps -> p < ρl.length)
    (h : ∀ ro, AW P ro ρl.length asg (thn (fun ρ1 σ1 => ∃ ρl1 ps1 asg1 body1, lk σ1.H β = some (.loop .ready none ρl1 ps1 asg1 body1) /\
      AW P ro ρl.length body (RoundEnd β K) ρ1 (σ1.set β (.loop .busy none ρl1 ps1 asg1 body1))) (fun _ _ _ => False)) (putAll ps args (fun i => ρl.getD i .undef)) σ) : AYields P β args σ K := by
  refine ⟨hc, fun g w cargs r hvl => ?_⟩
  obtain ⟨L, ho, h1, h2, h3, h4, h5, _, _⟩ := r.blk _ _ hk
  have hsz : cargs.toArray.size = L.params.size := by
    have e1 := hvl.1
    have e2 : L.params.toList.length = ps.length := by rw [h3]
    simp at e2 ⊢; omega
  refine ⟨_, _, _, _, run_yield ho hsz, roundIn_of_wpIn trivial ?_⟩
  have er : ER g σ w ρl.length (fun i => ρl.getD i .undef) L.tmps := by
    refine ⟨h1, fun i hi => ?_⟩
    have e1 : ρl[i]? = some ρl[i] := List.getElem?_eq_getElem hi
    have e2 : L.tmps[i]? = some (L.tmps[i]'(by omega)) := Array.getElem?_eq_getElem (by omega)
    simp only [List.getD, e1, Option.getD_some, Array.getD_eq_getD_getElem?, e2]
    exact h2 i _ _ e1 e2
  have ht : (L.params.zip cargs.toArray).foldl (fun tmps (t, a) => tmps.setIfInBounds t a) L.tmps = (ps.zip cargs).foldl (fun t (p, a) => t.setIfInBounds p a) L.tmps := by
    rw [<- Array.foldl_toList, Array.toList_zip, h3]
  have er1 : ER g σ w ρl.length (putAll ps args (fun i => ρl.getD i .undef)) ((L.params.zip cargs.toArray).foldl (fun tmps (t, a) => tmps.setIfInBounds t a) L.tmps) := by
    rw [ht]; exact er_putAll ps args cargs _ _ er hvl hps
  have ha := (h (some (g.bl β)) L.assign h4).2 w.heap.size g ⟨(L.params.zip cargs.toArray).foldl (fun tmps (t, a) => tmps.setIfInBounds t a) L.tmps, []⟩ w r er1 ⟨fun d hd => by simp at hd, List.nodup_nil⟩ (Nat.le_refl _)
  refine wpIn_mono ha fun e a1 w1 p => ?_
  obtain ⟨x, hx, ρ1, σ1, g1, hq, r1, er1, e1, mk1⟩ := p
  cases x with
  | ext i => exact hq.elim
  | ret => exact hq.elim
  | nrm =>
    have := exOf_nrm hx
    subst this
    obtain ⟨ρl1, ps1, asg1, body1, hk1, hbody⟩ := hq
    have hβ : β < σ.n := r.lt _ _ hk
    have hb1 : g1.bl β = g.bl β := (e1.eg β hβ).1
    obtain ⟨L1, ho1, _, _, _, _, _, q6, q7⟩ := r1.blk _ _ hk1
    rw [hb1] at ho1
    have hpn1 : L1.pending = none := by
      cases hp : L1.pending with
      | none => rfl
      | some c => rw [hp] at q7; exact q7.elim
    refine ⟨_, run_beginRound ho1 q6, ?_⟩
    obtain ⟨r2, e2⟩ := loop_set (st' := .busy) (pe' := none) (cst := .busy) (cpe := none) r1 hk1 (by rw [hb1]; exact ho1) rfl trivial
    have hw : w1.putObj (g.bl β) (.loop { L1 with state := .busy }) = w1.putObj (g1.bl β) (.loop { L1 with state := .busy, pending := none }) := by rw [hb1, <- hpn1]
    rw [hw]
    have er2 := er1.evo e2
    refine wpIn_mono ((hbody L.body h5).2 w.heap.size g1 a1 _ r2 er2 (mk1.evo e2) (Nat.le_trans e1.esz e2.esz)) fun e3 a3 w3 p3 => ?_
    obtain ⟨x3, hx3, ρ3, σ3, g3, ⟨ρl3, ps3, asg3, body3, hk3, hq3⟩, r3, er3, e3', mk3⟩ := p3
    have e13 := (e1.trans ⟨e2, rfl, rfl⟩).trans e3'
    have hb3 : g3.bl β = g.bl β := (e13.eg β hβ).1
    obtain ⟨L3, ho3, _⟩ := r3.blk _ _ hk3
    rw [hb3] at ho3
    have fin : ∀ (jump : Option Code) (st : LState) (pe : Option ACode), (match st with | .ready => (if jump.isNone then LoopState.ready else .done) = .ready | .busy => (if jump.isNone then LoopState.ready else .done) = .busy | .done => (if jump.isNone then LoopState.ready else .done) = .done) ->
        (match pe, jump with | none, none => True | some (.exit i), some (.exit j) => i = j | some .ret, some .ret => True | _, _ => False) -> K (.bool jump.isNone) (σ3.set β (.loop st pe ρl3 ps3 asg3 body3)) ->
        ∃ v w', (Instr.endRound (g.bl β) jump).run P w3 = .ok v w' /\ RetPost P g σ w K (.returned v) w' := by
      intro jump st pe hst hpe hK
      obtain ⟨r4, e4⟩ := loop_set (st' := st) (pe' := pe) (cst := if jump.isNone then .ready else .done) (cpe := jump) r3 hk3 (by rw [hb3]; exact ho3) hst hpe
      rw [hb3] at r4 e4
      exact ⟨_, _, run_endRound jump ho3, .bool jump.isNone, _, g3, hK, r4, .bool _, e13.trans ⟨e4, rfl, rfl⟩⟩
    cases x3 with
    | nrm =>
      have := exOf_nrm hx3
      subst this
      exact fin none .ready none rfl trivial hq3
    | ext i =>
      have := exOf_ext hx3
      subst this
      exact fin (some (.exit i)) .done (some (.exit i)) rfl rfl hq3
    | ret =>
      have := exOf_ret hx3
      subst this
      exact fin (some .ret) .done (some .ret) rfl trivial hq3
theorem ayield {β : Nat} {ρl : List AV} {ps : List Nat} {asg body : ACode} {args : List AV} {K : AV -> St -> Prop} (ca : ∃ a, cCode P ρl.length a = asg) (cb : ∃ b, cCode P ρl.length b = body) (hk : lk σ.H β = some (.loop .ready none ρl ps asg body)) (hl : args.length = ps.length) (hps : ∀ p, p ∈ ps -> p < ρl.length)
    (h : ∀ ro, AW P ro ρl.length asg (thn (fun ρ1 σ1 => ∃ ρl1 ps1 asg1 body1, lk σ1.H β = some (.loop .ready none ρl1 ps1 asg1 body1) /\
      AW P ro ρl.length body (RoundEnd β K) ρ1 (σ1.set β (.loop .busy none ρl1 ps1 asg1 body1))) (fun _ _ _ => False)) (putAll ps args (fun i => ρl.getD i .undef)) σ) : AYields P β args σ K := by
  refine ayield' ?_ hk hl hps h
  obtain ⟨a, ha⟩ := ca
  obtain ⟨b, hb⟩ := cb
  obtain ⟨x, ρ', σ', hx⟩ := (h none a ha).1
  cases x with
  | ext i => exact hx.elim
  | ret => exact hx.elim
  | nrm =>
    obtain ⟨_, _, _, _, _, hx⟩ := hx
    obtain ⟨x, ρ2, σ2, _, _, _, _, _, hk⟩ := (hx b hb).1
    cases x with
    | ext i => exact ⟨_, _, hk⟩
    | ret => exact ⟨_, _, hk⟩
    | nrm => exact ⟨_, _, hk⟩
end Go.Proofs.YtekhblefchceaaaGreat.AM

/- Rules for walking through a function of the abstract machine. -/
namespace Go.Proofs.YtekhblefchceaaaGreat.AM
open Go
variable {P : Program} {nt : Nat} {ro : Option Nat} {Q : Ex -> Env -> St -> Prop} {ρ : Env} {σ : St}
def FOk (P : Program) (f : Nat) (af : AFunc) : Prop := ∃ fn, P.funcs[f]? = some fn /\ (fn.name == "runtime.NumGoroutine") = false /\ cFunc P fn = some af
theorem FOk.calls {f : Nat} {af : AFunc} (h : FOk P f af) {args : List AV} {K : AV -> St -> Prop} (hl : args.length <= af.nt) (hb : AW P none af.nt af.body (FPost af.res K) (envOf args) σ) : ACalls P f args σ K :=
  let ⟨_, h1, h2, h3⟩ := h; afun h1 h2 h3 hl hb
def Ext (σ σ' : St) : Prop := σ.n <= σ'.n /\ ∀ β, β < σ.n -> lk σ'.H β = lk σ.H β
theorem Ext.refl (σ : St) : Ext σ σ := ⟨Nat.le_refl _, fun _ _ => rfl⟩
theorem Ext.trans {σ σ' σ'' : St} (h : Ext σ σ') (h' : Ext σ' σ'') : Ext σ σ'' := ⟨Nat.le_trans h.1 h'.1, fun β hβ => (h'.2 β (Nat.lt_of_lt_of_le hβ h.1)).trans (h.2 β hβ)⟩
theorem Ext.new (σ : St) (b : Blk) : Ext σ (σ.new b) := ⟨Nat.le_succ _, fun β hβ => by simp only [St.new, lk]; rw [if_neg (by omega)]⟩
theorem Ext.newer {σ σ' : St} (h : Ext σ σ') (b : Blk) : Ext σ (σ'.new b) := h.trans (.new _ _)
theorem Ext.set {σ σ' : St} (h : Ext σ σ') {β : Nat} (hβ : σ.n <= β) (b : Blk) : Ext σ (σ'.set β b) :=
  ⟨h.1, fun γ hγ => by simp only [St.set]; rw [lk_upd, if_neg (by omega)]; exact h.2 γ hγ⟩
@[simp] theorem new_n (σ : St) (b : Blk) : (σ.new b).n = σ.n + 1 := rfl
@[simp] theorem set_n (σ : St) (β : Nat) (b : Blk) : (σ.set β b).n = σ.n := rfl
theorem lk_new (σ : St) (b : Blk) (β : Nat) : lk (σ.new b).H β = if σ.n = β then some b else lk σ.H β := rfl
theorem lk_set (σ : St) (β : Nat) (b : Blk) (γ : Nat) : lk (σ.set β b).H γ = if β = γ then (lk σ.H γ).map (fun _ => b) else lk σ.H γ := lk_upd
theorem wrap_i {n : Int} (h : -9223372036854775808 <= n /\ n <= 9223372036854775807) : IntKind.i64.wrap n = n := by rw [IntKind.wrap_i64]; omega
theorem wrap_u {n : Int} (h : 0 <= n /\ n < 18446744073709551616) : IntKind.u64.wrap n = n := by rw [IntKind.wrap_u64]; omega
noncomputable def wr : IntKind -> Int -> Int := Classical.choose (⟨_, rfl⟩ : ∃ f : IntKind -> Int -> Int, f = IntKind.wrap)
theorem wr_eq (k : IntKind) (n : Int) : k.wrap n = wr k n := by
  have h : wr = IntKind.wrap := Classical.choose_spec (⟨_, rfl⟩ : ∃ f : IntKind -> Int -> Int, f = IntKind.wrap)
  rw [h]
theorem wr_i {n : Int} (h : -9223372036854775808 <= n /\ n <= 9223372036854775807) : wr .i64 n = n := (wr_eq _ _).symm.trans (wrap_i h)
theorem wr_u {n : Int} (h : 0 <= n /\ n < 18446744073709551616) : wr .u64 n = n := (wr_eq _ _).symm.trans (wrap_u h)
theorem bin_add (k : IntKind) (a b : Int) : binA .add (.int k a) (.int k b) = some (.int k (wr k (a + b))) := by rw [<- wr_eq]; simp [binA, intOp]
theorem bin_sub (k : IntKind) (a b : Int) : binA .sub (.int k a) (.int k b) = some (.int k (wr k (a - b))) := by rw [<- wr_eq]; simp [binA, intOp]
theorem bin_mul (k : IntKind) (a b : Int) : binA .mul (.int k a) (.int k b) = some (.int k (wr k (a * b))) := by rw [<- wr_eq]; simp [binA, intOp]
theorem bin_quo (k : IntKind) (a b : Int) (hb : b ≠ 0) : binA .quo (.int k a) (.int k b) = some (.int k (wr k (a.tdiv b))) := by rw [<- wr_eq]; simp [binA, intOp, hb]
theorem bin_rem (k : IntKind) (a b : Int) (hb : b ≠ 0) : binA .rem (.int k a) (.int k b) = some (.int k (a.tmod b)) := by simp [binA, intOp, hb]
theorem bin_and (k : IntKind) (a b : Int) : binA .and (.int k a) (.int k b) = some (.int k (wr k (BitVec.ofInt k.bits a &&& BitVec.ofInt k.bits b).toNat)) := by
  rw [<- wr_eq]
  show (if k = k then intOp .and k a b else none) = _
  rw [if_pos rfl]; rfl
theorem bin_or (k : IntKind) (a b : Int) : binA .or (.int k a) (.int k b) = some (.int k (wr k (BitVec.ofInt k.bits a ||| BitVec.ofInt k.bits b).toNat)) := by
  rw [<- wr_eq]
  show (if k = k then intOp .or k a b else none) = _
  rw [if_pos rfl]; rfl
theorem bin_eql (k : IntKind) (a b : Int) : binA .eql (.int k a) (.int k b) = some (.bool (decide (a = b))) := by simp [binA, intOp]
theorem bin_neq (k : IntKind) (a b : Int) : binA .neq (.int k a) (.int k b) = some (.bool (!decide (a = b))) := by simp [binA, intOp]
theorem bin_lss (k : IntKind) (a b : Int) : binA .lss (.int k a) (.int k b) = some (.bool (decide (a < b))) := by simp [binA, intOp]
theorem bin_leq (k : IntKind) (a b : Int) : binA .leq (.int k a) (.int k b) = some (.bool (decide (a <= b))) := by simp [binA, intOp]
theorem bin_gtr (k : IntKind) (a b : Int) : binA .gtr (.int k a) (.int k b) = some (.bool (decide (b < a))) := by simp [binA, intOp]
theorem bin_geq (k : IntKind) (a b : Int) : binA .geq (.int k a) (.int k b) = some (.bool (decide (b <= a))) := by simp [binA, intOp]
theorem bin_shl (k k' : IntKind) (a b : Int) (hb : 0 <= b) : binA .shl (.int k a) (.int k' b) = some (.int k (wr k (a * 2 ^ (min b.toNat k.bits)))) := by
  rw [<- wr_eq]; simp [binA]; omega
theorem bin_shr (k k' : IntKind) (a b : Int) (hb : 0 <= b) : binA .shr (.int k a) (.int k' b) = some (.int k (a.fdiv (2 ^ (min b.toNat k.bits)))) := by
  simp [binA]; omega
theorem bin_sadd (a b : List UInt8) : binA .add (.str a) (.str b) = if a.length + b.length <= 2 ^ 62 then some (.str (a ++ b)) else none := rfl
theorem bin_seql (a b : List UInt8) : binA .eql (.str a) (.str b) = some (.bool (a == b)) := rfl
theorem bin_sneq (a b : List UInt8) : binA .neq (.str a) (.str b) = some (.bool (!(a == b))) := rfl
noncomputable def convOR (k : IntKind) (σ : St) : AV -> OR
  | .int _ n => .v (.int k (wr k n)) σ
  | _ => .bad
theorem eval_conv (ρ : Env) (σ : St) (k : IntKind) (x : Opd) : evalOp ρ σ (.conv k x) = convOR k σ (x.ev ρ) := by
  simp only [evalOp]
  cases x.ev ρ <;> simp only [convOR, wr_eq]
theorem convOR_int (k k' : IntKind) (σ : St) (n : Int) : convOR k σ (.int k' n) = .v (.int k (wr k n)) σ := rfl
theorem nk1 (n : Nat) : (n + 1 = n) = False := by simp
theorem kn1 (n : Nat) : (n = n + 1) = False := by simp
theorem nk2 (n : Nat) : (n + 2 = n) = False := by simp
theorem kn2 (n : Nat) : (n = n + 2) = False := by simp
theorem nk3 (n : Nat) : (n + 3 = n) = False := by simp
theorem kn3 (n : Nat) : (n = n + 3) = False := by simp
theorem nk4 (n : Nat) : (n + 4 = n) = False := by simp
theorem kn4 (n : Nat) : (n = n + 4) = False := by simp
theorem nk5 (n : Nat) : (n + 5 = n) = False := by simp
theorem kn5 (n : Nat) : (n = n + 5) = False := by simp
theorem nk6 (n : Nat) : (n + 6 = n) = False := by simp
theorem kn6 (n : Nat) : (n = n + 6) = False := by simp
theorem nk7 (n : Nat) : (n + 7 = n) = False := by simp
theorem kn7 (n : Nat) : (n = n + 7) = False := by simp
theorem nk8 (n : Nat) : (n + 8 = n) = False := by simp
theorem kn8 (n : Nat) : (n = n + 8) = False := by simp
theorem nk9 (n : Nat) : (n + 9 = n) = False := by simp
theorem kn9 (n : Nat) : (n = n + 9) = False := by simp
theorem nk10 (n : Nat) : (n + 10 = n) = False := by simp
theorem kn10 (n : Nat) : (n = n + 10) = False := by simp
theorem nk11 (n : Nat) : (n + 11 = n) = False := by simp
theorem kn11 (n : Nat) : (n = n + 11) = False := by simp
theorem nk12 (n : Nat) : (n + 12 = n) = False := by simp
theorem kn12 (n : Nat) : (n = n + 12) = False := by simp
@[simp] theorem put_at (ρ : Env) (i : Nat) (v : AV) (j : Nat) : (ρ.put i v) j = if j = i then v else ρ j := rfl
@[simp] theorem putO_some (ρ : Env) (i : Nat) (v : AV) : ρ.putO (some i) v = ρ.put i v := rfl
@[simp] theorem putO_none (ρ : Env) (v : AV) : ρ.putO none v = ρ := rfl
@[simp] theorem envOf_at (l : List AV) (j : Nat) : envOf l j = l.getD j (.tup []) := rfl
@[simp] theorem ev_t (ρ : Env) (i : Nat) : (Opd.t i).ev ρ = ρ i := rfl
@[simp] theorem ev_c (ρ : Env) (v : AV) : (Opd.c v).ev ρ = v := rfl
@[simp] theorem thn_nrm (K : Env -> St -> Prop) (Q : Ex -> Env -> St -> Prop) (ρ : Env) (σ : St) : thn K Q .nrm ρ σ = K ρ σ := rfl
@[simp] theorem thn_ext (K : Env -> St -> Prop) (Q : Ex -> Env -> St -> Prop) (i : Nat) (ρ : Env) (σ : St) : thn K Q (.ext i) ρ σ = Q (.ext i) ρ σ := rfl
@[simp] theorem thn_ret (K : Env -> St -> Prop) (Q : Ex -> Env -> St -> Prop) (ρ : Env) (σ : St) : thn K Q .ret ρ σ = Q .ret ρ σ := rfl
@[simp] theorem inBl_nrm (id : Nat) (Q : Ex -> Env -> St -> Prop) (ρ : Env) (σ : St) : inBl id Q .nrm ρ σ = Q .nrm ρ σ := rfl
@[simp] theorem inBl_ret (id : Nat) (Q : Ex -> Env -> St -> Prop) (ρ : Env) (σ : St) : inBl id Q .ret ρ σ = Q .ret ρ σ := rfl
@[simp] theorem inBl_ext (id : Nat) (Q : Ex -> Env -> St -> Prop) (i : Nat) (ρ : Env) (σ : St) : inBl id Q (.ext i) ρ σ = if i = id then Q .nrm ρ σ else Q (.ext i) ρ σ := rfl
@[simp] theorem FPost_nrm (rs : List RV) (K : AV -> St -> Prop) (ρ : Env) (σ : St) : FPost rs K .nrm ρ σ = ∃ l, resOf ρ σ rs = some l /\ K (resAV l) σ := rfl
@[simp] theorem FPost_ret (rs : List RV) (K : AV -> St -> Prop) (ρ : Env) (σ : St) : FPost rs K .ret ρ σ = ∃ l, resOf ρ σ rs = some l /\ K (resAV l) σ := rfl
section
variable {K : Env -> St -> Prop} {r : List AInstr}
theorem w_nil (ρ : Env) (σ : St) : AL P [] K ρ σ = K ρ σ := rfl
theorem w_cons (d : Option Nat) (op : AOp) (ρ : Env) (σ : St) : AL P (⟨d, none, op⟩ :: r) K ρ σ = upon P σ (fun v σ' => AL P r K (ρ.putO d v) σ') (evalOp ρ σ op) := rfl
def grd (P : Program) (b : Bool) (d : Option Nat) (op : AOp) (r : List AInstr) (K : Env -> St -> Prop) (ρ : Env) (σ : St) (x : AV) : Prop :=
  match (match x with | .bool t => some (t == b) | .tup [] => some false | _ => none : Option Bool) with
  | some true => upon P σ (fun v σ' => AL P r K (ρ.putO d v) σ') (evalOp ρ σ op)
  | some false => AL P r K (ρ.putO d (.tup [])) σ
  | none => False
theorem w_consg (d : Option Nat) (s : Nat) (b : Bool) (op : AOp) (ρ : Env) (σ : St) : AL P (⟨d, some (s, b), op⟩ :: r) K ρ σ = grd P b d op r K ρ σ (ρ s) := rfl
theorem g_tt (d : Option Nat) (op : AOp) (ρ : Env) (σ : St) : grd P true d op r K ρ σ (.bool true) = upon P σ (fun v σ' => AL P r K (ρ.putO d v) σ') (evalOp ρ σ op) := rfl
theorem g_ff (d : Option Nat) (op : AOp) (ρ : Env) (σ : St) : grd P false d op r K ρ σ (.bool false) = upon P σ (fun v σ' => AL P r K (ρ.putO d v) σ') (evalOp ρ σ op) := rfl
theorem g_tf (d : Option Nat) (op : AOp) (ρ : Env) (σ : St) : grd P true d op r K ρ σ (.bool false) = AL P r K (ρ.putO d (.tup [])) σ := rfl
theorem g_ft (d : Option Nat) (op : AOp) (ρ : Env) (σ : St) : grd P false d op r K ρ σ (.bool true) = AL P r K (ρ.putO d (.tup [])) σ := rfl
theorem g_no (b : Bool) (d : Option Nat) (op : AOp) (ρ : Env) (σ : St) : grd P b d op r K ρ σ (.tup []) = AL P r K (ρ.putO d (.tup [])) σ := rfl
@[congr] theorem grd_congr (b : Bool) (d : Option Nat) (op : AOp) (ρ : Env) (σ : St) {x y : AV} (h : x = y) : grd P b d op r K ρ σ x = grd P b d op r K ρ σ y := by rw [h]
end
theorem u_v {K : AV -> St -> Prop} (v : AV) (σ' : St) : upon P σ K (.v v σ') = K v σ' := rfl
theorem u_any {K : AV -> St -> Prop} (l : List (AV × St)) : upon P σ K (.any l) = (l ≠ [] /\ ∀ p, p ∈ l -> K p.1 p.2) := rfl
theorem u_call {K : AV -> St -> Prop} (f : Nat) (args : List AV) : upon P σ K (.call f args) = ACalls P f args σ K := rfl
theorem u_yld {K : AV -> St -> Prop} (β : Nat) (args : List AV) : upon P σ K (.yld β args) = AYields P β args σ K := rfl
theorem u_bad {K : AV -> St -> Prop} : upon P σ K .bad = False := rfl
@[congr] theorem upon_congr {K : AV -> St -> Prop} {x y : OR} (h : x = y) : upon P σ K x = upon P σ K y := by rw [h]
theorem AW.cond2 {c : Opd} {x y : ACode} {b : Bool} (h : c.ev ρ = .bool b) (h1 : b = true -> AW P ro nt x Q ρ σ) (h2 : b = false -> AW P ro nt y Q ρ σ) : AW P ro nt (.cond c x y) Q ρ σ := by
  cases b
  · exact AW.cond h (h2 rfl)
  · exact AW.cond h (h1 rfl)
theorem call_go {f : Nat} {args : List AV} {K K' : AV -> St -> Prop} (h : ACalls P f args σ K) (hk : ∀ v σ', K v σ' -> K' v σ') : ACalls P f args σ K' := h.mono hk
theorem fk {f : Nat} {fn : Func} {af : AFunc} {P : Program} (h : P.funcs[f]? = some fn) (h1 : (fn.name == "runtime.NumGoroutine") = false := by kernel_rfl) (h2 : cFunc P fn = some af := by kernel_rfl) : FOk P f af := ⟨fn, h, h1, h2⟩
theorem aI {a b : Prop} (x : a) (y : b) : a /\ b := ⟨x, y⟩
end Go.Proofs.YtekhblefchceaaaGreat.AM

