/- Joined: D13, D14, D15, D16. -/
import Derived.Test.YtekhblefchceaaaGreatDD
set_option linter.unusedVariables false
set_option linter.unusedSimpArgs false
/- Contracts: plan.Cut, New; laws of sizes. -/
set_option maxRecDepth 20000
namespace Go.Proofs.YtekhblefchceaaaGreat.AM
open Go Go.Proofs
variable {σ : St}
theorem cutQ_spec {A : Ar} (wf : A.WF) {t : Pl} {n : Nat} (hv : OkP A t) (hn : n <= t.bytes) (hb : t.bytes <= 65536) :
  OkP A (cutP A t.ht t n).1 /\ OkP A (cutP A t.ht t n).2 /\ (cutP A t.ht t n).1.txt A = (t.txt A).take n /\ (cutP A t.ht t n).2.txt A = (t.txt A).drop n := by
 rcases hv with rfl | ⟨m, hv⟩
 ·have : n = 0 := by simpa [Pl.bytes] using hn
  subst this
  exact ⟨okp_emp A, okp_emp A, rfl, rfl⟩
 ·have e := hv.ht
  rw [e]
  exact cutP_spec wf m t true n hv hn hb
theorem cutQ_ok {p : Pa} {A : Ar} (wf : A.WF) (t : Pl) (n : Nat) (hv : OkP A t) (hn : n <= t.bytes) (hb : t.bytes <= 65536) (hA : ArAt p σ A) :
  ACalls Tryz.prog 170 [.ptr p.a 0, t.av, .int .i64 n] σ (fun v σ' => v = .tup [(cutP A t.ht t n).1.av, (cutP A t.ht t n).2.av, .int .i64 0] /\ σ' = σ) := by
 rcases hv with rfl | ⟨m, hv⟩
 ·have : n = 0 := by simpa [Pl.bytes] using hn
  subst this
  refine ACalls.quietX ?_ (by simp only [AV.pur, purL, Pl.pur, Bool.and_self])
  refine FOk.calls ok170 (by simp [a170]) (wpc_sound hmix ?_)
  show wpc _ _ _ c170 _ _ _
  simp (disch := first | exact dA | fail) only [↓V0, VV, reduceCtorEq, seval, a170, Pl.av_eq, treeCs]
  refine AW.qx none (.p 0 (.p 1 (.a 2 (.a 3 (.p 4 .nil))))) [(σ.n, .arr Pl.emp.cs)] hmix (by decide) (by decide) (SB.cons (by simp only [↓W0, W, reduceCtorEq, seval, Pl.cs, treeCs]) (SB.nil _)) ?_
  simp (disch := first | exact dA | fail) only [↓V0, VV, reduceCtorEq, seval, a170, Pl.cs, treeCs]
  refine ⟨SB.cons (by simp only [↓W0, W, reduceCtorEq, seval]) (SB.nil _), SB.cons (by simp only [↓W0, W, reduceCtorEq, seval]) (SB.nil _), ?_, by exact eA⟩
  simp only [WE, Pl.ers]
  rfl
 ·have e := hv.ht
  rw [e]
  exact cut_ok wf m t true n hv hn hb σ hA
theorem pcut_ok {p : Pa} {A : Ar} (wf : A.WF) (t : Pl) (n : Nat) (hv : OkP A t) (hn : n <= t.bytes) (hb : t.bytes <= 65536) (hA : ArAt p σ A) :
  ACalls Tryz.prog 111 [.ptr p.a 0, t.av, .int .i64 n] σ (fun v σ' => v = .tup [(cutP A t.ht t n).1.av, (cutP A t.ht t n).2.av, .int .i64 0] /\ σ' = σ) := by
 refine ACalls.quietX ?_ (by simp only [AV.pur, purL, Pl.pur, Bool.and_self])
 have hs := cutQ_spec wf hv hn hb
 have hA2 := hA.ext ((((Ext.new σ (.arr t.cs))).newer (.arr tz)).newer (.arr tz))
 have hc := cutQ_ok wf t n hv hn hb hA2
 generalize cutP A t.ht t n = R at hs hc ⊢
 obtain ⟨u, v⟩ := R
 obtain ⟨ou, ov, _, _⟩ := hs
 simp only at hc ou ov ⊢
 refine FOk.calls ok111 (by simp [a111]) (wpc_sound hmix ?_)
 show wpc _ _ _ c111 _ _ _
 simp (disch := first | exact dA | fail) only [↓V0, VV, reduceCtorEq, seval, a111, Pl.av_eq, treeCs]
 refine callQE (by first | rfl | simp only [WQ, treeCs, Ms.av, Ms.cs]) (pcheck_ok wf t hv hb hA2) ?_
 simp (disch := first | exact dA | fail) only [↓V0, VV, reduceCtorEq, seval, a111]
 refine callQE (by first | rfl | simp only [WQ, treeCs, Ms.av, Ms.cs]) (bytes_ok t (hv.w0 wf) (by omega) _) ?_
 simp (disch := first | exact dA | fail) only [↓V0, VV, reduceCtorEq, seval, a111]
 refine callQE (by first | rfl | simp only [WQ, treeCs, Ms.av, Ms.cs]) (hc) ?_
 simp (disch := first | exact dA | fail) only [↓V0, VV, reduceCtorEq, seval, a111, Pl.av_eq, treeCs]
 refine AW.qx none (.p 0 (.r 1 (.p 2 (.r 3 (.p 4 (.a 5 (.a 6 (.p 7 .nil)))))))) [(σ.n + 1 + 1 + 1, .arr u.cs), (σ.n + 1 + 1 + 1 + 1, .arr v.cs)] hmix (by decide) (by decide) (SB.cons (by simp (disch := first | exact dA | fail) only [↓V0, VV, reduceCtorEq, seval, a111, Pl.cs, treeCs]) (SB.cons (by simp (disch := first | exact dA | fail) only [↓V0, VV, reduceCtorEq, seval, a111, Pl.cs, treeCs]) (SB.nil _))) ?_
 simp (disch := first | exact dA | fail) only [↓V0, VV, reduceCtorEq, seval, a111, Pl.cs, treeCs]
 refine aqr u.av (fun σ' hs => ?_) ?_
 ·simp (disch := first | exact dA | fail) only [↓V0, VV, reduceCtorEq, seval, a111]
  refine callQE (by first | rfl | simp only [WQ, treeCs, Ms.av, Ms.cs]) (own_ok u (ou.w0 wf) _) ?_
  exact ⟨rfl, rfl⟩
 simp (disch := first | exact dA | fail) only [↓V0, VV, reduceCtorEq, seval, a111]
 refine aqr v.av (fun σ' hs => ?_) ?_
 ·simp (disch := first | exact dA | fail) only [↓V0, VV, reduceCtorEq, seval, a111]
  refine callQE (by first | rfl | simp only [WQ, treeCs, Ms.av, Ms.cs]) (own_ok v (ov.w0 wf) _) ?_
  exact ⟨rfl, rfl⟩
 simp (disch := first | exact dA | fail) only [↓V0, VV, reduceCtorEq, seval, a111, Pl.av_eq, treeCs]
 refine ⟨SB.cons (by simp (disch := first | exact dA | fail) only [↓V0, VV, reduceCtorEq, seval, a111]) (SB.cons (by simp (disch := first | exact dA | fail) only [↓V0, VV, reduceCtorEq, seval, a111]) (SB.nil _)), SB.cons (by simp (disch := first | exact dA | fail) only [↓V0, VV, reduceCtorEq, seval, a111]) (SB.cons (by simp (disch := first | exact dA | fail) only [↓V0, VV, reduceCtorEq, seval, a111]) (SB.nil _)), ?_, by exact eA⟩
 simp only [WE, Pl.ers]
mutual
def Pl.nnew : Pl -> Nat
 | .emp => 0
 | .kept _ _ _ => 0
 | .leaf _ => 1
 | .inner _ ks => 1 + nnewL ks
def nnewL : List Pl -> Nat
 | [] => 0
 | p :: l => p.nnew + nnewL l
end
theorem nnewL_eq : ∀ l, nnewL l = (l.map Pl.nnew).sum
 | [] => rfl
 | p :: l => by simp [nnewL, nnewL_eq l]
theorem Pl.nnew_eq (p : Pl) : p.nnew = (if p.kd = 3 \/ p.kd = 4 then 1 else 0) + (p.ks.map Pl.nnew).sum := by
 cases p <;> simp [Pl.nnew, Pl.kd, Pl.ks, nnewL_eq]
theorem new_ok (p : Pl) : ∀ (hv : p.W0) (hb : p.nnew <= 1099511627776) (σ : St), ACalls Tryz.prog 174 [p.av] σ (fun v σ' => v = .int .i64 (p.nnew : Nat) /\ σ' = σ) := by
 refine Pl.ind (M := fun p => p.W0 -> p.nnew <= 1099511627776 -> ∀ σ, ACalls Tryz.prog 174 [p.av] σ (fun v σ' => v = .int .i64 (p.nnew : Nat) /\ σ' = σ)) (fun p ih hv hb σ => ?_) p
 have hlen := hv.len
 refine ACalls.quietX ?_ rfl
 have he := p.nnew_eq
 have key : ∀ (n0 : Nat) (ρ : Env) (σ1 : St), p.nnew = n0 + (p.ks.map Pl.nnew).sum -> ρ 3 = .int .i64 n0 -> ρ 16 = .vs (p.ks.map Pl.av) .no -> ρ 17 = .int .i64 (p.ks.length : Nat) -> ρ 18 = .int .i64 0 -> Ext σ σ1 ->
   AW Tryz.prog none 28 (.loop l174_10) (inBl 0 (kS Tryz.prog none 28 (.seq (.rg r174_10) .ret) (FPost [.tmp 2] fun v σ' => v.er = .int .i64 (p.nnew : Nat) /\ Ext σ σ'))) ρ σ1 := by
  intro n0 ρ σ1 hn0 r3 r16 r17 r18 hE1
  refine AW.upto hmix (fun i ρ σ' => ρ 3 = .int .i64 ((n0 + ((p.ks.map Pl.nnew).take i).sum : Nat) : Int) /\ ρ 16 = .vs (p.ks.map Pl.av) .no /\ ρ 17 = .int .i64 (p.ks.length : Nat) /\ ρ 18 = .int .i64 (i : Nat) /\ Ext σ σ') p.ks.length
   ⟨by rw [r3]; simp, r16, r17, r18, hE1⟩ (fun i ρ σ' hi h => ?_) (fun ρ σ' h => ?_)
  ·obtain ⟨r3, r14, r15, r16, hE⟩ := h
   have hgi := pget p.ks hi
   have hs := sum_le_of_mem (l := p.ks.map Pl.nnew) (i := i) (by simpa using hi)
   have hgb : (p.ks.map Pl.nnew).getD i 0 = (p.ks[i]).nnew := by simp [hi, List.getD_eq_getElem?_getD]
   have hss : ((p.ks.map Pl.nnew).take (i + 1)).sum = ((p.ks.map Pl.nnew).take i).sum + (p.ks[i]).nnew := by
    rw [take_succ_get (x := (p.ks[i]).nnew) (by simp [hi]), List.sum_append]; simp
   rw [hgb] at hs
   have hk := ih p.ks[i] (List.getElem_mem hi) (hv.sub (List.getElem_mem hi)) (by omega)
   generalize p.ks[i] = k at hgi hs hgb hss hk
   rw [Pl.av_eq] at hgi
   simp (disch := first | exact dA | fail) only [↓V0, VV, reduceCtorEq, seval, a174, r3, r14, r15, r16, hgi, treeCs]
   refine callQE (by first | rfl | simp only [WQ, treeCs, Ms.av, Ms.cs]) (hk _) ?_
   simp (disch := first | exact dA | fail) only [↓V0, VV, reduceCtorEq, seval, a174, r3, r14, r15, r16]
   exact ⟨by rw [hss]; congr 1; omega, rfl, hE.trans (by exact eA)⟩
  ·obtain ⟨r3, r14, r15, r16, hE⟩ := h
   simp (disch := first | exact dA | fail) only [↓V0, VV, reduceCtorEq, seval, a174, r3, r14, r15, r16]
   exact ⟨by rw [List.take_of_length_le (by simp), hn0]; rfl, hE⟩
 refine FOk.calls ok174 (by simp [a174]) (wpc_sound hmix ?_)
 show wpc _ _ _ c174 _ _ _
 simp (disch := first | exact dA | fail) only [↓V0, VV, reduceCtorEq, seval, a174, Pl.av_eq, treeCs]
 refine callQE (by first | rfl | simp only [WQ, treeCs, Ms.av, Ms.cs]) (kind_ok p hv.form) ?_
 by_cases h3 : p.kd = 3 \/ p.kd = 4
 ·rw [if_pos h3] at he
  rcases h3 with h3 | h3
  all_goals
   simp (disch := first | exact dA | fail) only [↓V0, VV, reduceCtorEq, seval, a174]
   exact key 1 _ _ he (by exact wA) (by exact wA) (by simp only [↓W0, W, reduceCtorEq, seval, List.length_map]) (by exact wA) (by exact eA)
 ·rw [if_neg h3] at he
  simp (disch := first | exact dA | fail) only [↓V0, VV, reduceCtorEq, seval, a174]
  exact key 0 _ _ he (by exact wA) (by exact wA) (by simp only [↓W0, W, reduceCtorEq, seval, List.length_map]) (by exact wA) (by exact eA)
end Go.Proofs.YtekhblefchceaaaGreat.AM

/- Laws of sizes; plan.Build. -/
set_option maxRecDepth 20000
namespace Go.Proofs.YtekhblefchceaaaGreat.AM
open Go Go.Proofs
variable {σ : St}
theorem sum_range_sz (q r : Nat) : ∀ g, ((List.range g).map fun i => q + if i < r then 1 else 0).sum = g * q + min g r := by
 intro g
 induction g with
 | zero => simp
 | succ g ih =>
  rw [List.range_succ, List.map_append, List.sum_append, ih]
  simp only [List.map_cons, List.map_nil, List.sum_cons, List.sum_nil, Nat.add_mul, Nat.one_mul]
  split <;> omega
theorem szs_sum (n m : Nat) (hm : 1 <= m) : (szs n m).sum = n := by
 rcases Nat.eq_zero_or_pos n with e | e
 ·subst e; rw [szs_nil]; rfl
 ·have hg := grps_pos e hm
  unfold szs
  have := sum_range_sz (n / grps n m) (n % grps n m) (grps n m)
  have hr : n % grps n m < grps n m := Nat.mod_lt _ hg
  have hd := Nat.div_add_mod n (grps n m)
  show ((List.range (grps n m)).map fun i => n / grps n m + if i < n % grps n m then 1 else 0).sum = n
  rw [this, Nat.min_eq_right (by omega)]
  exact hd
theorem szs_len (n m : Nat) : (szs n m).length = grps n m := by simp [szs]
theorem szs_mem {n m k : Nat} (h : k ∈ szs n m) : k = n / grps n m \/ (k = n / grps n m + 1 /\ 0 < n % grps n m) := by
 obtain ⟨i, hi, rfl⟩ := List.mem_map.1 h
 unfold szAt
 split
 ·exact .inr ⟨rfl, by omega⟩
 ·exact .inl rfl
theorem szs16 {n k : Nat} (h : k ∈ szs n 16) : 1 <= k /\ k <= 16 /\ (2 <= (szs n 16).length -> 8 <= k) := by
 rw [szs_len]
 have hn : 0 < n := by
  rcases Nat.eq_zero_or_pos n with e | e
  ·subst e; rw [szs_nil] at h; simp at h
  ·exact e
 have hg := grps_pos hn (show 1 <= 16 by decide)
 have e : grps n 16 = n / 16 + (if n % 16 = 0 then 0 else 1) := rfl
 have hm := szs_mem h
 generalize grps n 16 = g at hg e hm ⊢
 have h1 : n <= g * 16 := by split at e <;> omega
 have h2 : g * 16 < n + 16 := by split at e <;> omega
 have d1 : n / g <= 16 := Nat.div_le_of_le_mul h1
 have d2 : 1 <= n / g := (Nat.le_div_iff_mul_le hg).2 (by split at e <;> omega)
 have d3 : 2 <= g -> 8 <= n / g := fun hg2 => (Nat.le_div_iff_mul_le hg).2 (by omega)
 have dm := Nat.div_add_mod n g
 have d4 : n / g = 16 -> n % g = 0 := fun e => by rw [e] at dm; omega
 rcases hm with rfl | ⟨rfl, hr⟩
 ·exact ⟨d2, d1, d3⟩
 ·refine ⟨by omega, ?_, fun h => by have := d3 h; omega⟩
  rcases Nat.lt_or_ge (n / g) 16 with h | h
  ·omega
  ·have := d4 (by omega); omega
theorem szs4 {n k : Nat} (hn : 2 <= n) (h : k ∈ szs n 4) : 2 <= k /\ k <= 4 := by
 have hg := grps_pos (show 0 < n by omega) (show 1 <= 4 by decide)
 have e : grps n 4 = n / 4 + (if n % 4 = 0 then 0 else 1) := rfl
 have hm := szs_mem h
 generalize grps n 4 = g at hg e hm
 have h1 : n <= g * 4 := by split at e <;> omega
 have h2 : g * 4 < n + 4 := by split at e <;> omega
 have d1 : n / g <= 4 := Nat.div_le_of_le_mul h1
 have d2 : 2 <= n / g := (Nat.le_div_iff_mul_le hg).2 (by omega)
 have dm := Nat.div_add_mod n g
 have d4 : n / g = 4 -> n % g = 0 := fun e => by rw [e] at dm; omega
 rcases hm with rfl | ⟨rfl, hr⟩
 ·exact ⟨d2, d1⟩
 ·refine ⟨by omega, ?_⟩
  rcases Nat.lt_or_ge (n / g) 4 with h | h
  ·omega
  ·have := d4 (by omega); omega
theorem grps4 {n : Nat} (hn : 2 <= n) : 1 <= grps n 4 /\ 2 * grps n 4 <= n := by
 have hg := grps_pos (show 0 < n by omega) (show 1 <= 4 by decide)
 have e : grps n 4 = n / 4 + (if n % 4 = 0 then 0 else 1) := rfl
 refine ⟨hg, ?_⟩
 split at e <;> omega
theorem split_flat {α : Type} : ∀ (l : List Nat) (s : List α), l.sum = s.length -> (split l s).flatten = s
 | [], s, h => by
  simp at h
  have : s = [] := List.length_eq_zero_iff.1 h.symm
  subst this; rfl
 | n :: r, s, h => by
  simp only [List.sum_cons] at h
  simp only [split, List.flatten_cons]
  rw [split_flat r (s.drop n) (by rw [List.length_drop]; omega), List.take_append_drop]
theorem split_mem {α : Type} : ∀ (l : List Nat) (s : List α), l.sum = s.length -> ∀ t, t ∈ split l s -> t.length ∈ l /\ ∀ x, x ∈ t -> x ∈ s
 | n :: r, s, h, t, ht => by
  simp only [List.sum_cons] at h
  simp only [split, List.mem_cons] at ht
  rcases ht with rfl | ht
  ·rw [List.length_take, Nat.min_eq_left (by omega)]
   exact ⟨by simp, fun x hx => List.mem_of_mem_take hx⟩
  ·obtain ⟨h1, h2⟩ := split_mem r (s.drop n) (by rw [List.length_drop]; omega) t ht
   exact ⟨by simp [h1], fun x hx => List.mem_of_mem_drop (h2 x hx)⟩
def rowUp (row : List Pl) : List Pl := (split (szs row.length 4) row).map grp
def bld : Nat -> List Pl -> Pl
 | 0, row => grp row
 | f + 1, row => if 1 < row.length then bld f (rowUp row) else grp row
theorem rowUp_len (row : List Pl) : (rowUp row).length = grps row.length 4 := by simp [rowUp, split_length, szs_len]
theorem bld_stop (f : Nat) {row : List Pl} (h : row.length <= 1) : bld f row = grp row := by
 cases f with
 | zero => rfl
 | succ f => rw [bld, if_neg (by omega)]
theorem bld_more : ∀ (f : Nat) (row : List Pl), row.length <= f + 1 -> bld (f + 1) row = bld f row
 | 0, row, h => by rw [bld_stop 1 (by omega), bld_stop 0 (by omega)]
 | f + 1, row, h => by
  by_cases h1 : 1 < row.length
  ·have := grps4 (n := row.length) (by omega)
   rw [bld, if_pos h1, bld_more f (rowUp row) (by rw [rowUp_len]; omega)]
   conv => rhs; rw [bld, if_pos h1]
  ·rw [bld_stop _ (by omega), bld_stop _ (by omega)]
theorem bld_step {f : Nat} {row : List Pl} (h : row.length <= f + 1) (h1 : 1 < row.length) : bld f row = bld f (rowUp row) := by
 rw [<- bld_more f row h, bld, if_pos h1]
def bldP (s : List UInt8) : Pl := bld (cks s).length ((cks s).map .leaf)
theorem nnewL_flat (l : List (List Pl)) : nnewL l.flatten = (l.map nnewL).sum := by
 induction l with
 | nil => rfl
 | cons a l ih =>
  rw [List.flatten_cons, List.map_cons, List.sum_cons, <- ih]
  have : ∀ a b : List Pl, nnewL (a ++ b) = nnewL a + nnewL b := fun a b => by simp [nnewL_eq]
  exact this a _
structure Row (s : List UInt8) (L n : Nat) (row : List Pl) : Prop where
 v : ∀ A k, k ∈ row -> Val A true n k
 w : 2 <= row.length -> ∀ A k, k ∈ row -> Val A false n k
 tx : ∀ A, txtL A row = s
 nn : nnewL row + row.length <= 2 * L
def Ar0 : Ar := ⟨0, [], 0, [], [], 0, [], 0, 0, 0, 0⟩
theorem Ar0.wf : Ar0.WF := fun h x e => by simp [Ar.get, Ar0] at e
theorem Row.up {s : List UInt8} {L n : Nat} {row : List Pl} (h : Row s L n row) (h1 : 1 < row.length) (hs : s.length <= 65536) : Row s L (n + 1) (rowUp row) := by
 have hsum := szs_sum row.length 4 (by decide)
 have hw := h.w (by omega)
 have hn : n <= 13 := by
  obtain ⟨k, hk⟩ := List.exists_mem_of_ne_nil row (by intro e; rw [e] at h1; simp at h1)
  refine (hw Ar0 k hk).low12 Ar0.wf ?_
  rw [(hw Ar0 k hk).bytes Ar0.wf]
  have h1 := h.tx Ar0
  have h2 : (k.txt Ar0).length <= (txtL Ar0 row).length := by
   rw [txtL_eq, List.length_flatten]
   exact le_sum_mem (List.mem_map_of_mem (List.mem_map_of_mem hk))
  rw [h1] at h2
  omega
 have hg : ∀ t, t ∈ split (szs row.length 4) row -> 2 <= t.length /\ t.length <= 4 /\ ∀ A k, k ∈ t -> Val A false n k := fun t ht => by
  obtain ⟨m1, m2⟩ := split_mem _ _ hsum t ht
  obtain ⟨a, b⟩ := szs4 (by omega) m1
  exact ⟨a, b, fun A k hk => hw A k (m2 k hk)⟩
 have hv : ∀ A k, k ∈ rowUp row -> ∀ t, Val A t (n + 1) k := fun A k hk t => by
  obtain ⟨l, hl, rfl⟩ := List.mem_map.1 hk
  obtain ⟨a, b, c⟩ := hg l hl
  exact grp_val (c A) a b (by omega) t
 refine ⟨fun A k hk => hv A k hk _, fun _ A k hk => hv A k hk _, fun A => ?_, ?_⟩
 ·rw [<- h.tx A, txtL_eq, rowUp, List.map_map]
  have e1 : (Pl.txt A ∘ grp) = fun l => txtL A l := by funext l; exact grp_txt A l
  rw [e1]
  conv => rhs; rw [<- split_flat (szs row.length 4) row hsum, txtL_eq]
  generalize split (szs row.length 4) row = ll
  induction ll with
  | nil => rfl
  | cons a ll ih =>
   simp only [List.map_cons, List.flatten_cons, List.map_append, List.flatten_append]
   rw [<- ih, txtL_eq]
 ·have e1 : ∀ l, l ∈ split (szs row.length 4) row -> (grp l).nnew = 1 + nnewL l := fun l hl => by
   obtain ⟨a, b, c⟩ := hg l hl
   match l, a with
   | k :: k2 :: r, _ => rfl
  have e2 : nnewL (rowUp row) = (split (szs row.length 4) row).length + nnewL row := by
   conv => rhs; rw [<- split_flat (szs row.length 4) row hsum, nnewL_flat, split_flat _ _ hsum]
   rw [nnewL_eq, rowUp, List.map_map]
   generalize split (szs row.length 4) row = ll at e1
   induction ll with
   | nil => rfl
   | cons a ll ih =>
    simp only [List.map_cons, List.sum_cons, List.length_cons, Function.comp]
    rw [e1 a (by simp)]
    have := ih fun l hl => e1 l (by simp [hl])
    simp only [Function.comp_def] at this ⊢
    omega
  have h3 := h.nn
  have h4 := grps4 (n := row.length) (by omega)
  rw [e2, rowUp_len, split_length, szs_len]
  omega
theorem bld_spec {s : List UInt8} {L : Nat} (hs : s.length <= 65536) : ∀ (f n : Nat) (row : List Pl), Row s L n row -> 1 <= row.length -> row.length <= f + 1 -> (∀ A, ∃ m, Val A true m (bld f row)) /\ (∀ A, (bld f row).txt A = s) /\ (bld f row).nnew + 1 <= 2 * L
 | f, n, row, h, h1, hf => by
  by_cases h2 : 1 < row.length
  ·cases f with
   | zero => omega
   | succ f =>
    rw [bld, if_pos h2]
    have h4 := grps4 (n := row.length) (by omega)
    exact bld_spec hs f (n + 1) (rowUp row) (h.up h2 hs) (by rw [rowUp_len]; omega) (by rw [rowUp_len]; omega)
  ·rw [bld_stop f (by omega)]
   match row, h1, h2, h with
   | [k], _, _, h =>
    refine ⟨fun A => ⟨n, h.v A k (by simp)⟩, fun A => ?_, ?_⟩
    ·have := h.tx A; simpa [txtL, grp] using this
    ·have := h.nn; simpa [nnewL, grp] using this
   | a :: b :: r, _, h2, _ => simp at h2
theorem sum_ones {α : Type} (l : List α) : (l.map fun _ => 1).sum = l.length := by
 induction l with
 | nil => rfl
 | cons a l ih => simp only [List.map_cons, List.sum_cons, ih, List.length_cons]; omega
theorem cks_nil : cks [] = [] := by simp [cks, szs_nil, split]
theorem row0 (s : List UInt8) : Row s (cks s).length 0 ((cks s).map .leaf) := by
 have hsum := szs_sum s.length 16 (by decide)
 have hm : ∀ t, t ∈ cks s -> 1 <= t.length /\ t.length <= 16 /\ (2 <= (cks s).length -> 8 <= t.length) := fun t ht => by
  have := szs16 (split_mem _ _ hsum t ht).1
  rwa [<- split_length (szs s.length 16) s] at this
 refine ⟨fun A k hk => ?_, fun h2 A k hk => ?_, fun A => ?_, ?_⟩
 ·obtain ⟨t, ht, rfl⟩ := List.mem_map.1 hk
  exact .leaf (hm t ht).1 (hm t ht).2.1 (.inl rfl)
 ·obtain ⟨t, ht, rfl⟩ := List.mem_map.1 hk
  exact .leaf (hm t ht).1 (hm t ht).2.1 (.inr ((hm t ht).2.2 (by simpa using h2)))
 ·rw [txtL_eq, List.map_map]
  have : (Pl.txt A ∘ Pl.leaf) = id := by funext t; rfl
  rw [this, List.map_id]
  exact split_flat _ _ hsum
 ·rw [nnewL_eq, List.map_map]
  have : (Pl.nnew ∘ Pl.leaf) = fun _ => 1 := by funext t; rfl
  rw [this, sum_ones]
  simp; omega
theorem cks_len (s : List UInt8) : (cks s).length = grps s.length 16 := by simp [cks, split_length, szs_len]
theorem bldP_spec (s : List UInt8) (hs : s.length <= 65536) : (∀ A, OkP A (bldP s)) /\ (∀ A, (bldP s).txt A = s) /\ (bldP s).nnew <= s.length := by
 rcases Nat.eq_zero_or_pos s.length with e | e
 ·have : s = [] := List.length_eq_zero_iff.1 e
  subst this
  have h : bldP [] = .emp := by simp [bldP, cks_nil, bld, grp]
  rw [h]
  exact ⟨fun A => okp_emp A, fun A => rfl, Nat.le_refl _⟩
 ·have hg := grps_pos e (show 1 <= 16 by decide)
  have hl := cks_len s
  have h := bld_spec (L := (cks s).length) hs (cks s).length 0 _ (row0 s) (by simp; omega) (by simp)
  refine ⟨fun A => .inr (h.1 A), h.2.1, ?_⟩
  have e2 : grps s.length 16 = s.length / 16 + (if s.length % 16 = 0 then 0 else 1) := rfl
  have h3 := h.2.2
  unfold bldP
  split at e2 <;> omega
end Go.Proofs.YtekhblefchceaaaGreat.AM

/- Contracts: plan.Build, Replace. -/
set_option maxRecDepth 20000
namespace Go.Proofs.YtekhblefchceaaaGreat.AM
open Go Go.Proofs
variable {σ : St}
theorem iget (l : List Nat) {i : Nat} (hi : i < l.length) : (iav l)[i]? = some (.int .i64 (l.getD i 0 : Nat)) := get_iav hi
theorem build_in {σ0 : St} {s : List UInt8} {row : List Pl} {R : List AV} {Q : Ex -> Env -> St -> Prop} {ρ : Env} (h1 : 1 < row.length) (h2 : row.length <= 65536) (hht : ∀ k, k ∈ row -> k.ht <= 999) (hR : R.map AV.er = row.map Pl.av) (hfR : fitSz 7 R = true)
  (r2 : ρ 2 = .ptr σ0.n 0) (r4 : ∃ t, ρ 4 = .vs R t) (r9 : ρ 9 = .vs [] .ex) (r42 : ρ 42 = .vs (iav (szs row.length 4)) .no) (r43 : ρ 43 = .int .i64 (grps row.length 4 : Nat)) (r44 : ρ 44 = .int .i64 0) (hE : Ext σ0 σ) (hl : lk σ.H σ0.n = some (.arr tz)) (hlt : σ0.n < σ.n)
  (hQ : ∀ (ρ' : Env) (σ' : St) (t : Tok), ρ' 2 = .ptr σ0.n 0 -> ρ' 9 = .vs ((rowUp row).map Pl.av) t -> Ext σ0 σ' -> lk σ'.H σ0.n = some (.arr tz) -> σ0.n < σ'.n -> Q .nrm ρ' σ') :
  AW Tryz.prog none 62 (.loop l91_21) (inBl 4 Q) ρ σ := by
 obtain ⟨t4, r4⟩ := r4
 have hsum := szs_sum row.length 4 (by decide)
 have hzl := szs_len row.length 4
 have hg4 := grps4 (n := row.length) (by omega)
 have hul := rowUp_len row
 have hRl : R.length = row.length := by have := congrArg List.length hR; simpa using this
 generalize hz : szs row.length 4 = z at *
 refine AW.upto hmix (fun i ρ σ' => ρ 2 = .ptr σ0.n 0 /\ (∃ t, ρ 4 = .vs (R.drop (z.take i).sum) t) /\ (∃ t, ρ 9 = .vs (((rowUp row).take i).map Pl.av) t /\ Own σ0 σ' t) /\ ρ 42 = .vs (iav z) .no /\ ρ 43 = .int .i64 (z.length : Nat) /\ ρ 44 = .int .i64 (i : Nat) /\ lk σ'.H σ0.n = some (.arr tz) /\ σ0.n < σ'.n) z.length
  ⟨r2, ⟨t4, by rw [r4]; simp⟩, ⟨.ex, by rw [r9]; simp, .ex hE⟩, r42, by rw [r43, hzl], by rw [r44]; rfl, hl, hlt⟩ (fun i ρ σ' hi h => ?_) (fun ρ σ' h => ?_)
 ·obtain ⟨r2, ⟨t, r4⟩, ⟨t', r9, ho⟩, r42, r43, r44, hl, hlt⟩ := h
  have hgi := iget z hi
  have hgs : (rowUp row)[i]? = some (grp ((row.drop (z.take i).sum).take (z.getD i 0))) := by
   rw [rowUp, hz, List.getElem?_map, split_get z row i hi]; rfl
  have hss : (z.take (i + 1)).sum = (z.take i).sum + z.getD i 0 := by
   rw [take_succ_get (x := z.getD i 0) (by simp [hi, List.getD_eq_getElem?_getD]), List.sum_append]; simp
  have hle := sum_take_le z (i + 1)
  have hRd : (R.drop (z.take i).sum).length = row.length - (z.take i).sum := by rw [List.length_drop, hRl]
  have hfd : fitSz 7 (R.drop (z.take i).sum) = true := by
   unfold fitSz at hfR ⊢
   rw [List.all_eq_true] at hfR ⊢
   exact fun x hx => hfR x (List.mem_of_mem_drop hx)
  have hcond : z.getD i 0 <= row.length - (z.take i).sum := by omega
  have hm : z.getD i 0 ∈ z := by
   rw [List.getD_eq_getElem?_getD, List.getElem?_eq_getElem hi]; exact List.getElem_mem hi
  have hz4 := szs4 (n := row.length) (k := z.getD i 0) (by omega) (hz ▸ hm)
  have hcall : ((R.drop (z.take i).sum).take (z.getD i 0)).map AV.er = ((row.drop (z.take i).sum).take (z.getD i 0)).map Pl.av := by
   rw [List.map_take, List.map_drop, hR, List.map_take, List.map_drop]
  have hgrp := group_ok (σ := σ') ((row.drop (z.take i).sum).take (z.getD i 0)) (by rw [List.length_take]; omega) (fun k hk => by have := hht k (List.mem_of_mem_drop (List.mem_of_mem_take hk)); omega)
  have hf9 := Pl.fit ((rowUp row).take i)
  have hl9 : (((rowUp row).take i).map Pl.av).length = i := by simp; omega
  have htg := ho.g
  have hdt : (R.drop (z.take i).sum).take (row.length - (z.take i).sum) = R.drop (z.take i).sum := List.take_of_length_le (by omega)
  have hdd : (R.drop (z.take i).sum).drop (z.getD i 0) = R.drop (z.take (i + 1)).sum := by rw [List.drop_drop, hss]
  have hnext : ((rowUp row).take (i + 1)).map Pl.av = ((rowUp row).take i).map Pl.av ++ [(grp ((row.drop (z.take i).sum).take (z.getD i 0))).av] := by
   rw [take_succ_get hgs, List.map_append]; rfl
  generalize grp ((row.drop (z.take i).sum).take (z.getD i 0)) = g at hgrp hgs hnext
  rw [Pl.av_eq g] at hnext
  simp only [treeCs] at hnext
  generalize hRd2 : R.drop (z.take i).sum = R2 at *
  generalize z.getD i 0 = zi at *
  simp (disch := first | exact dA | fail) only [↓V0, VV, reduceCtorEq, seval, a91, r2, r4, r9, r42, r43, r44, hgi, hfd, hRd]
  refine callQE (by simp only [WE]; rw [hcall]) hgrp ?_
  simp (disch := first | exact dA | fail) only [↓V0, VV, reduceCtorEq, seval, a91, r2, r4, r9, r42, r43, r44, hgi, hfd, hRd, Pl.av_eq, treeCs, ↓eval_app, appA_S]
  exact ⟨⟨_, by rw [hdt, hdd]⟩, ⟨_, by rw [hnext], ho.app⟩, rfl, rt_lk ho.ok hl (by simp) hlt, by rw [rt_n]; omega⟩
 ·obtain ⟨r2, ⟨t, r4⟩, ⟨t', r9, ho⟩, r42, r43, r44, hl, hlt⟩ := h
  simp (disch := first | exact dA | fail) only [↓V0, VV, reduceCtorEq, seval, a91, r2, r4, r9, r42, r43, r44]
  refine hQ _ _ t' (by (simp only [↓W0, W, reduceCtorEq, seval, r2]; first | done | rfl | omega | simp)) ?_ ho.ext hl hlt
  simp only [↓W0, W, reduceCtorEq, seval, r9]
  rw [List.take_of_length_le (by omega)]
theorem build_ok (s : List UInt8) (hs : s.length <= 65536) : ACalls Tryz.prog 91 [.str s] σ (fun v σ' => v = .tup [(bldP s).av, .int .i64 0] /\ σ' = σ) := by
 refine ACalls.quietX ?_ (by simp only [AV.pur, purL, Pl.pur, Bool.and_self])
 have hcl := cks_len s
 have hg2 := grps_le (n := s.length) (m := 16) (by decide)
 have hsl : (sav (cks s)).length = (cks s).length := by simp [sav]
 have hbl : bldP s = bld (cks s).length ((cks s).map .leaf) := rfl
 have hr0 := row0 s
 refine FOk.calls ok91 (by simp [a91]) (wpc_sound hmix ?_)
 show wpc _ _ _ c91 _ _ _
 simp (disch := first | exact dA | fail) only [↓V0, VV, reduceCtorEq, seval, a91]
 refine callQ (chunks_ok s (by omega) (szs_sum _ _ (by decide))) ?_
 simp (disch := first | exact dA | fail) only [↓V0, VV, reduceCtorEq, seval, a91, hsl]
 generalize bldP s = B at hbl ⊢
 generalize hL : cks s = L at *
 refine AW.upto hmix (fun i ρ σ' => ρ 2 = .ptr σ.n 0 /\ (∃ t, ρ 4 = .vs ((L.take i).map lraw) t /\ Own σ σ' t) /\ ρ 17 = .vs (sav L) .no /\ ρ 18 = .int .i64 (L.length : Nat) /\ ρ 19 = .int .i64 (i : Nat) /\ lk σ'.H σ.n = some (.arr tz) /\ σ.n < σ'.n) L.length
  ⟨by exact wA, ⟨.ex, by exact wA, .ex (by exact eA)⟩, by exact wA, by simp only [↓W0, W, reduceCtorEq, seval, hsl], by exact wA, by exact wA, by simp only [↓W0, W, reduceCtorEq, seval]⟩ (fun i ρ σ' hi h => ?_) (fun ρ σ' h => ?_)
 ·obtain ⟨r2, ⟨t, r4, ho⟩, r17, r18, r19, hl, hlt⟩ := h
  have hgi : (sav L)[i]? = some (.str L[i]) := by simp [sav, hi]
  have htk : (L.take (i + 1)).map lraw = (L.take i).map lraw ++ [lraw L[i]] := by
   rw [take_succ_get (x := L[i]) (by simp [hi]), List.map_append]; rfl
  have hf := fit_lraw (L.take i)
  have hfl : ((L.take i).map lraw).length = i := by simp; omega
  have htg := ho.g
  generalize L[i] = k at hgi htk
  simp (disch := first | exact dA | fail) only [↓V0, VV, reduceCtorEq, seval, a91, r2, r4, r17, r18, r19, hgi, ↓eval_app, appA_S]
  exact ⟨⟨_, by rw [htk]; rfl, ho.app⟩, rfl, rt_lk ho.ok hl (by simp) hlt, by rw [rt_n]; omega⟩
 ·obtain ⟨r2, ⟨t, r4, ho⟩, r17, r18, r19, hl, hlt⟩ := h
  rw [List.take_of_length_le (Nat.le_refl _)] at r4
  simp (disch := first | exact dA | fail) only [↓V0, VV, reduceCtorEq, seval, a91, r2, r4, r17, r18, r19]
  refine AW.lp hmix (fun k ρ σ' => ∃ (row : List Pl) (R : List AV) (t : Tok) (f n : Nat), k = row.length /\ bld f row = B /\ row.length <= f + 1 /\ row.length <= 65536 /\ Row s L.length n row /\ ρ 2 = .ptr σ.n 0 /\ ρ 4 = .vs R t /\ R.map AV.er = row.map Pl.av /\ fitSz 7 R = true /\ Ext σ σ' /\ lk σ'.H σ.n = some (.arr tz) /\ σ.n < σ'.n) L.length
   ⟨L.map .leaf, L.map lraw, t, L.length, 0, by simp, hbl.symm, by simp, by simp; omega, hr0, by (simp only [↓W0, W, reduceCtorEq, seval, r2]; first | done | rfl | omega | simp), by (simp only [↓W0, W, reduceCtorEq, seval, r4]; first | done | rfl | omega | simp), er_lraw L, fit_lraw L, ho.ext, hl, hlt⟩ ?_
  rintro k ρ σ' ⟨row, R, t, f, n, rfl, hB, hf, hb, hrow, r2, r4, hR, hfR, hE, hl, hlt⟩
  have hRl : R.length = row.length := by have := congrArg List.length hR; simpa using this
  by_cases h1 : 1 < row.length
  ·have hsl4 : (iav (szs row.length 4)).length = grps row.length 4 := by rw [len_iav, szs_len]
   simp (disch := first | exact dA | fail) only [↓V0, VV, reduceCtorEq, seval, a91, r2, r4, hRl]
   refine callQ (even_ok row.length 4 (by decide) (by decide) hb) ?_
   simp (disch := first | exact dA | fail) only [↓V0, VV, reduceCtorEq, seval, a91, r2, r4, hRl, hsl4]
   refine build_in (σ0 := σ) (s := s) (row := row) (R := R) h1 hb (fun k hk => by have := (hrow.v Ar0 k hk).n16 Ar0.wf; have := (hrow.v Ar0 k hk).ht; omega) hR hfR (by (simp only [↓W0, W, reduceCtorEq, seval, r2]; first | done | rfl | omega | simp)) ⟨t, by (simp only [↓W0, W, reduceCtorEq, seval, r4]; first | done | rfl | omega | simp)⟩ (by exact wA) (by exact wA) (by simp only [↓W0, W, reduceCtorEq, seval, hsl4]) (by exact wA) hE hl hlt ?_
   intro ρ' σ2 t2 q2 q9 hE2 hl2 hlt2
   simp (disch := first | exact dA | fail) only [↓V0, VV, reduceCtorEq, seval, a91, q2, q9]
   have hg4 := grps4 (n := row.length) (by omega)
   have hul := rowUp_len row
   exact ⟨(rowUp row).length, by omega, rowUp row, (rowUp row).map Pl.av, t2, f, n + 1, rfl, by rw [<- bld_step hf h1]; exact hB, by omega, by omega, hrow.up h1 hs, rfl, Pl.ers _, Pl.fit _, hE2, hl2⟩
  ·rw [bld_stop f (by omega)] at hB
   simp (disch := first | exact dA | fail) only [↓V0, VV, reduceCtorEq, seval, a91, r2, r4, hRl]
   refine callQE (by simp only [WE]; rw [hR]) (group_ok row (by omega) (fun k hk => by have := (hrow.v Ar0 k hk).n16 Ar0.wf; have := (hrow.v Ar0 k hk).ht; omega)) ?_
   simp only [tz] at hl
   simp (disch := first | exact dA | fail) only [↓V0, VV, reduceCtorEq, seval, a91, r2, hl, Pl.av_eq, treeCs]
   refine ⟨?_, by exact eA⟩
   rw [<- hB]
   simp only [WE, Pl.ers]
end Go.Proofs.YtekhblefchceaaaGreat.AM

/- Contracts: plan.Replace. -/
set_option maxRecDepth 20000
namespace Go.Proofs.YtekhblefchceaaaGreat.AM
open Go Go.Proofs
variable {σ : St}
def rplP (A : Ar) (t : Pl) (at_ n : Nat) (s : List UInt8) : Pl := if n = 0 /\ s = [] then t else
 cnc A (cnc A (cutP A t.ht t at_).1 (bldP s)) (cutP A (cutP A t.ht t at_).2.ht (cutP A t.ht t at_).2 n).2
theorem rplP_spec {A : Ar} (wf : A.WF) {t : Pl} {at_ n : Nat} {s : List UInt8} (hv : OkP A t) (hb : t.bytes <= 65536) (h1 : at_ <= t.bytes) (h2 : n <= t.bytes - at_) (h3 : t.bytes - n + s.length <= 65536) :
  OkP A (rplP A t at_ n s) /\ (rplP A t at_ n s).txt A = (t.txt A).take at_ ++ (s ++ (t.txt A).drop (at_ + n)) := by
 unfold rplP
 have hl := hv.bytes wf
 by_cases h : n = 0 /\ s = []
 ·rw [if_pos h]
  obtain ⟨rfl, rfl⟩ := h
  exact ⟨hv, by simp⟩
 ·rw [if_neg h]
  obtain ⟨o1, o2, t1, t2⟩ := cutQ_spec wf (n := at_) hv h1 hb
  generalize cutP A t.ht t at_ = c at o1 o2 t1 t2 ⊢
  have hb2 := o2.bytes wf
  have hl2 : c.2.bytes = t.bytes - at_ := by rw [hb2, t2, List.length_drop]; omega
  obtain ⟨p1, p2, q1, q2⟩ := cutQ_spec wf (n := n) o2 (by omega) (by omega)
  generalize cutP A c.2.ht c.2 n = d at p1 p2 q1 q2 ⊢
  obtain ⟨b1, b2, _⟩ := bldP_spec s (by omega)
  have c1 := cnc_spec wf o1 (b1 A) (by rw [t1, b2, List.length_take]; omega)
  have c2 := cnc_spec wf c1.1 p2 (by rw [c1.2, t1, b2, q2, t2]; simp only [List.length_append, List.length_take, List.length_drop]; omega)
  exact ⟨c2.1, by rw [c2.2, c1.2, t1, b2, q2, t2, List.drop_drop, List.append_assoc]⟩
theorem replace_ok {p : Pa} {A : Ar} (wf : A.WF) (t : Pl) (at_ n : Nat) (s : List UInt8) (hv : OkP A t) (hb : t.bytes <= 65536) (h1 : at_ <= t.bytes) (h2 : n <= t.bytes - at_) (h3 : t.bytes - n + s.length <= 65536) (hA : ArAt p σ A) :
  ACalls Tryz.prog 92 [.ptr p.a 0, t.av, .int .i64 at_, .int .i64 n, .str s] σ (fun v σ' => v = .tup [(rplP A t at_ n s).av, .int .i64 0] /\ σ' = σ) := by
 refine ACalls.quietX ?_ (by simp only [AV.pur, purL, Pl.pur, Bool.and_self])
 have hl := hv.bytes wf
 have hw := hv.w0 wf
 have hA2 := hA.ext (((Ext.new σ (.arr t.cs))).newer (.arr tz))
 simp only [Pl.cs, treeCs, tz] at hA2
 have hsl : s.length <= 65536 := by omega
 refine FOk.calls ok92 (by simp [a92]) (wpc_sound hmix ?_)
 show wpc _ _ _ c92 _ _ _
 simp (disch := first | exact dA | fail) only [↓V0, VV, reduceCtorEq, seval, a92, Pl.av_eq, treeCs]
 refine callQE (by first | rfl | simp only [WQ, treeCs, Ms.av, Ms.cs]) (pcheck_ok wf t hv hb hA2) ?_
 simp (disch := first | exact dA | fail) only [↓V0, VV, reduceCtorEq, seval, a92]
 refine callQE (by first | rfl | simp only [WQ, treeCs, Ms.av, Ms.cs]) (bytes_ok t hw (by omega) _) ?_
 have hmin : (if (65536 : Int) < (s.length : Nat) then (65536 : Int) else (s.length : Nat)) = (s.length : Nat) := by rw [if_neg (by omega)]
 by_cases h : n = 0 /\ s = []
 ·obtain ⟨rfl, rfl⟩ := h
  simp (disch := first | exact dA | fail) only [↓V0, VV, reduceCtorEq, seval, a92, hmin]
  refine callQE (by first | rfl | simp only [WQ, treeCs, Ms.av, Ms.cs]) (own_ok t hw _) ?_
  simp (disch := first | exact dA | fail) only [↓V0, VV, reduceCtorEq, seval, a92, Pl.av_eq, treeCs]
  refine ⟨?_, by exact eA⟩
  have e : rplP A t at_ 0 [] = t := if_pos ⟨rfl, rfl⟩
  rw [e]
  simp only [WE, Pl.ers]
 ·obtain ⟨o1, o2, t1, t2⟩ := cutQ_spec wf (n := at_) hv h1 hb
  have hcut := cutQ_ok wf t at_ hv h1 hb hA2
  have hR : rplP A t at_ n s = cnc A (cnc A (cutP A t.ht t at_).1 (bldP s)) (cutP A (cutP A t.ht t at_).2.ht (cutP A t.ht t at_).2 n).2 := by rw [rplP, if_neg h]
  generalize rplP A t at_ n s = R at hR ⊢
  generalize cutP A t.ht t at_ = c at o1 o2 t1 t2 hcut hR
  obtain ⟨c1, c2⟩ := c
  simp only at o1 o2 t1 t2 hcut hR
  have hb2 := o2.bytes wf
  have hl2 : c2.bytes = t.bytes - at_ := by rw [hb2, t2, List.length_drop]; omega
  obtain ⟨p1, p2, q1, q2⟩ := cutQ_spec wf (n := n) o2 (by omega) (by omega)
  have hcut2 := fun σ' (hA' : ArAt p σ' A) => cutQ_ok wf c2 n o2 (by omega) (by omega) hA'
  generalize cutP A c2.ht c2 n = d at p1 p2 q1 q2 hcut2 hR
  obtain ⟨d1, d2⟩ := d
  simp only at p1 p2 q1 q2 hcut2 hR
  obtain ⟨b1, b2, _⟩ := bldP_spec s hsl
  have e1 := cnc_spec wf o1 (b1 A) (by rw [t1, b2, List.length_take]; omega)
  have e2 := cnc_spec wf e1.1 p2 (by rw [e1.2, t1, b2, q2, t2]; simp only [List.length_append, List.length_take, List.length_drop]; omega)
  have hbld := fun σ' => build_ok (σ := σ') s hsl
  have hm := b1 A
  generalize bldP s = mid at *
  have key : n ≠ 0 \/ (n = 0 /\ 1 <= s.length) := by
   by_cases hn : n = 0
   ·exact .inr ⟨hn, by
     cases s with
     | nil => exact absurd ⟨hn, rfl⟩ h
     | cons a s => simp⟩
   ·exact .inl hn
  have hsb : n = 0 -> (s == []) = false := fun hn => beq_nil_f ((key.resolve_left (fun h => h hn)).2)
  rcases key with key | key
  all_goals
   first | (have hsb2 := hsb key.1) | skip
   first | (simp (disch := first | exact dA | fail) only [↓V0, VV, reduceCtorEq, seval, a92, hmin, hsb2]) | (simp (disch := first | exact dA | fail) only [↓V0, VV, reduceCtorEq, seval, a92, hmin])
   refine callQE (by first | rfl | simp only [WQ, treeCs, Ms.av, Ms.cs]) (hcut) ?_
   simp (disch := first | exact dA | fail) only [↓V0, VV, reduceCtorEq, seval, a92, Pl.av_eq, treeCs]
   refine callQE (by first | rfl | simp only [WQ, treeCs, Ms.av, Ms.cs]) (hcut2 _ (hA.ext (by exact eA))) ?_
   simp (disch := first | exact dA | fail) only [↓V0, VV, reduceCtorEq, seval, a92, Pl.av_eq, treeCs]
   refine callQE (by first | rfl | simp only [WQ, treeCs, Ms.av, Ms.cs]) (hbld _) ?_
   simp (disch := first | exact dA | fail) only [↓V0, VV, reduceCtorEq, seval, a92, Pl.av_eq, treeCs]
   refine callQE (by first | rfl | simp only [WQ, treeCs, Ms.av, Ms.cs]) (concat_ok wf _ _ o1 hm (hA.ext (by exact eA))) ?_
   simp (disch := first | exact dA | fail) only [↓V0, VV, reduceCtorEq, seval, a92, Pl.av_eq, treeCs]
   refine callQE (by first | rfl | simp only [WQ, treeCs, Ms.av, Ms.cs]) (concat_ok wf _ _ e1.1 p2 (hA.ext (by exact eA))) ?_
   simp (disch := first | exact dA | fail) only [↓V0, VV, reduceCtorEq, seval, a92, Pl.av_eq, treeCs]
   refine callQE (by first | rfl | simp only [WQ, treeCs, Ms.av, Ms.cs]) (own_ok _ (e2.1.w0 wf) _) ?_
   simp (disch := first | exact dA | fail) only [↓V0, VV, reduceCtorEq, seval, a92, Pl.av_eq, treeCs]
   refine ⟨?_, by exact eA⟩
   rw [hR]
   simp only [WE, Pl.ers]
end Go.Proofs.YtekhblefchceaaaGreat.AM

