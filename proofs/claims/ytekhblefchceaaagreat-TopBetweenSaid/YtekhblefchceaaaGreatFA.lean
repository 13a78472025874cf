/- Joined: F1, F2, F3, F4. -/
import Derived.Test.YtekhblefchceaaaGreatDG
import Derived.Test.YtekhblefchceaaaGreatK4
set_option linter.unusedVariables false
set_option linter.unusedSimpArgs false
/- Contracts: within, has, handle.Slot, handle.Gen; freelist.Live, Give; arena.Live, Free. -/
set_option maxRecDepth 20000
namespace Go.Proofs.YtekhblefchceaaaGreat.AM
open Go Go.Proofs
variable {σ : St}
def wi (i n : Int) : Int := if n < 1 then 0 else (i.tmod n + n).tmod n
theorem wi_lt {i n : Int} (h : 1 <= n) : 0 <= wi i n /\ wi i n < n := by
 unfold wi
 rw [if_neg (by omega)]
 have h1 := Int.emod_nonneg (i.tmod n + n) (show n ≠ 0 by omega)
 have h2 := Int.emod_lt_of_pos (i.tmod n + n) (show 0 < n by omega)
 have h3 : -n < i.tmod n := by
  have h4 : (i.tmod n).natAbs = i.natAbs % n.natAbs := Int.natAbs_tmod i n
  have h5 : i.natAbs % n.natAbs < n.natAbs := Nat.mod_lt _ (by omega)
  omega
 rw [Int.tmod_eq_emod_of_nonneg (by omega)]
 exact ⟨h1, h2⟩
theorem within_ok (i n : Int) (hn : n <= 4611686018427387904) : ACalls Tryz.prog 82 [.int .i64 i, .int .i64 n] σ (fun v σ' => v = .int .i64 (wi i n) /\ σ' = σ) := by
 refine ACalls.quietX ?_ rfl
 by_cases h : n < 1
 ·refine FOk.calls ok82 (by simp [a82]) (wpc_sound hmix ?_)
  show wpc _ _ _ c82 _ _ _
  simp (disch := first | exact dA | fail) only [↓V0, VV, reduceCtorEq, seval, a82, eq_true h]
  exact ⟨by rw [wi, if_pos h]; rfl, by exact eA⟩
 ·have h1 : ¬ n = 0 := by omega
  have h4 : (i.tmod n).natAbs = i.natAbs % n.natAbs := Int.natAbs_tmod i n
  have h5 : i.natAbs % n.natAbs < n.natAbs := Nat.mod_lt _ (by omega)
  have e1 : binA .rem (.int .i64 i) (.int .i64 n) = some (.int .i64 (i.tmod n)) := by simp [binA, intOp, h1]
  have e2 : binA .rem (.int .i64 (i.tmod n + n)) (.int .i64 n) = some (.int .i64 ((i.tmod n + n).tmod n)) := by simp [binA, intOp, h1]
  refine FOk.calls ok82 (by simp [a82]) (wpc_sound hmix ?_)
  show wpc _ _ _ c82 _ _ _
  simp (disch := first | exact dA | fail) only [↓V0, VV, reduceCtorEq, seval, a82, eq_false h, e1, e2]
  exact ⟨by rw [wi, if_neg h]; rfl, by exact eA⟩
theorem has_ok (l : List Nat) (h : Nat) (t : Tok) (hl : l.length <= 1000000) : ACalls Tryz.prog 86 [.vs (l.map fun x => .int .u64 (x : Nat)) t, .int .u64 h] σ (fun v σ' => v = .bool (decide (h ∈ l)) /\ σ' = σ) := by
 refine ACalls.quietX ?_ rfl
 have hll : (l.map fun x => AV.int .u64 (x : Nat)).length = l.length := List.length_map _
 have hgs : ∀ i (h : i < l.length), (l.map fun x => AV.int .u64 (x : Nat))[i]? = some (.int .u64 (l[i] : Nat)) := fun i h => by simp [h]
 refine FOk.calls ok86 (by simp [a86]) (wpc_sound hmix ?_)
 show wpc _ _ _ c86 _ _ _
 simp (disch := first | exact dA | fail) only [↓V0, VV, reduceCtorEq, seval, a86, hll]
 refine AW.upto hmix (fun i ρ σ' => Ext σ σ' /\ h ∉ l.take i /\ ρ 0 = .vs (l.map fun x => .int .u64 (x : Nat)) t /\ ρ 1 = .int .u64 h /\ ρ 5 = .int .i64 (i : Nat)) l.length ⟨by exact eA, by simp, by exact wA, by exact wA, by exact wA⟩ (fun i ρ σ' hi hJ => ?_) (fun ρ σ' hJ => ?_)
 ·obtain ⟨hE, hn, r0, r1, r5⟩ := hJ
  have hgi := hgs i hi
  have hs := List.take_succ_eq_append_getElem hi
  by_cases he : l[i] = h
  ·simp (disch := first | exact dA | fail) only [↓V0, VV, reduceCtorEq, seval, a86, r0, r1, r5, hll, hgi, eq_true (show ((l[i] : Nat) : Int) = (h : Int) by omega)]
   exact ⟨by rw [decide_eq_true (by rw [<- he]; exact List.getElem_mem hi)]; rfl, hE⟩
  ·simp (disch := first | exact dA | fail) only [↓V0, VV, reduceCtorEq, seval, a86, r0, r1, r5, hll, hgi, eq_false (show ¬((l[i] : Nat) : Int) = (h : Int) by omega)]
   exact ⟨hE, by rw [hs]; simp only [List.mem_append, List.mem_singleton]; rintro (e | e); exact hn e; exact he e.symm, rfl⟩
 ·obtain ⟨hE, hn, r0, r1, r5⟩ := hJ
  rw [List.take_length] at hn
  simp (disch := first | exact dA | fail) only [↓V0, VV, reduceCtorEq, seval, a86, r0, r1, r5, hll]
  exact ⟨by rw [decide_eq_false hn]; rfl, hE⟩
theorem hslot_ok (h : Nat) (hh : hOk h) : ACalls Tryz.prog 249 [.int .u64 h] σ (fun v σ' => v = .tup [.int .i64 (h % 65536 : Nat), .int .i64 0] /\ σ' = σ) := by
 refine ACalls.quietX ?_ rfl
 have hb : h < 18446744073709551616 := by obtain ⟨a, b, c⟩ := hh; omega
 refine FOk.calls ok249 (by simp [a249]) (wpc_sound hmix ?_)
 show wpc _ _ _ c249 _ _ _
 simp (disch := first | exact dA | fail) only [↓V0, VV, reduceCtorEq, seval, a249]
 refine callQ (check_ok h hb hh.1 hh.2.1 hh.2.2) ?_
 simp (disch := first | exact dA | fail) only [↓V0, VV, reduceCtorEq, seval, a249]
 refine callQ (parts_ok h hb) ?_
 simp (disch := first | exact dA | fail) only [↓V0, VV, reduceCtorEq, seval, a249]
 exact ⟨rfl, by exact eA⟩
theorem hgen_ok (h : Nat) (hh : hOk h) : ACalls Tryz.prog 250 [.int .u64 h] σ (fun v σ' => v = .tup [.int .u64 (h / 65536 : Nat), .int .i64 0] /\ σ' = σ) := by
 refine ACalls.quietX ?_ rfl
 have hb : h < 18446744073709551616 := by obtain ⟨a, b, c⟩ := hh; omega
 refine FOk.calls ok250 (by simp [a250]) (wpc_sound hmix ?_)
 show wpc _ _ _ c250 _ _ _
 simp (disch := first | exact dA | fail) only [↓V0, VV, reduceCtorEq, seval, a250]
 refine callQ (check_ok h hb hh.1 hh.2.1 hh.2.2) ?_
 simp (disch := first | exact dA | fail) only [↓V0, VV, reduceCtorEq, seval, a250]
 refine callQ (parts_ok h hb) ?_
 simp (disch := first | exact dA | fail) only [↓V0, VV, reduceCtorEq, seval, a250]
 exact ⟨rfl, by exact eA⟩
structure Ar.has (A : Ar) (h : Nat) : Prop where
 ho : hOk h
 lt : h % 65536 < A.n
 st : A.sts.getD (h % 65536) 0 = 1
 gn : A.gens.getD (h % 65536) 0 = h / 65536
theorem fslot_ok {p : Pa} {A : Ar} {h : Nat} (hA : ArAt p σ A) (ok : A.ok) (hh : A.has h) : ACalls Tryz.prog 217 [.ptr p.l 0, .int .u64 h] σ (fun v σ' => v = .tup [.int .i64 (h % 65536 : Nat), .bool true] /\ σ' = σ) := by
 refine ACalls.quietX ?_ rfl
 have hl := hA.bl
 have hb2 := hA.b2
 have hb3 := hA.b3
 have hlt := hh.lt
 have hn1 := ok.n1
 have g2 : (uav .u8 A.sts)[h % 65536]? = some (.int .u8 (1 : Nat)) := by rw [get_uav (by rw [ok.c2]; exact hlt), hh.st]
 have g3 : (uav .u64 A.gens)[h % 65536]? = some (.int .u64 (h / 65536 : Nat)) := by rw [get_uav (by rw [ok.c3]; exact hlt), hh.gn]
 refine FOk.calls ok217 (by simp [a217]) (wpc_sound hmix ?_)
 show wpc _ _ _ c217 _ _ _
 simp (disch := first | exact dA | fail) only [↓V0, VV, reduceCtorEq, seval, a217]
 refine callQ (hslot_ok h hh.ho) ?_
 simp (disch := first | exact dA | fail) only [↓V0, VV, reduceCtorEq, seval, a217, hl, hb2, g2]
 refine callQ (hgen_ok h hh.ho) ?_
 simp (disch := first | exact dA | fail) only [↓V0, VV, reduceCtorEq, seval, a217, hl, hb2, hb3, g2, g3]
 exact ⟨rfl, by exact eA⟩
theorem flive_ok {p : Pa} {A : Ar} {h : Nat} (hA : ArAt p σ A) (ok : A.ok) (hh : A.has h) : ACalls Tryz.prog 163 [.ptr p.l 0, .int .u64 h] σ (fun v σ' => v = .bool true /\ σ' = σ) := by
 refine ACalls.quietX ?_ rfl
 refine FOk.calls ok163 (by simp [a163]) (wpc_sound hmix ?_)
 show wpc _ _ _ c163 _ _ _
 simp (disch := first | exact dA | fail) only [↓V0, VV, reduceCtorEq, seval, a163]
 refine callQ (fslot_ok hA ok hh) ?_
 simp (disch := first | exact dA | fail) only [↓V0, VV, reduceCtorEq, seval, a163]
 exact ⟨rfl, by exact eA⟩
theorem alive_ok {p : Pa} {A : Ar} {h : Nat} (hA : ArAt p σ A) (ok : A.ok) (hh : A.has h) : ACalls Tryz.prog 89 [.ptr p.a 0, .int .u64 h] σ (fun v σ' => v = .bool true /\ σ' = σ) := by
 refine ACalls.quietX ?_ rfl
 have ha := hA.ba
 refine FOk.calls ok89 (by simp [a89]) (wpc_sound hmix ?_)
 show wpc _ _ _ c89 _ _ _
 simp (disch := first | exact dA | fail) only [↓V0, VV, reduceCtorEq, seval, a89, ha]
 refine callQ (flive_ok hA ok hh) ?_
 simp (disch := first | exact dA | fail) only [↓V0, VV, reduceCtorEq, seval, a89]
 exact ⟨rfl, by exact eA⟩
theorem Fr.set {p : Pa} {σ σ' : St} (h : Fr p σ σ') {β : Nat} (hβ : p.has β) (b : Blk) : Fr p σ (σ'.set β b) :=
 ⟨h.1, fun γ hγ hp => by rw [lk_set, if_neg (fun e => by subst e; exact hp hβ)]; exact h.2 γ hγ hp⟩
theorem appA_hs {ag : Bool} {sz bytes β off len cap : Nat} {c : List AV} {e : AV} {t : Tok} (hk : lk σ.H β = some (.arr c)) (h1 : len + 1 <= cap) (h2 : off + (len + 1) * sz <= c.length) (he : fitSz sz [e] = true) :
  appA ag sz bytes (.hs β off len cap) (.vs [e] t) σ = .v (.hs β off (len + 1) cap) (σ.set β (.arr (putCells c (off + len * sz) e.cells))) := by
 simp [appA, evalOp, Opd.ev, readAll, he, hk, h1, h2]
theorem put_z {k : IntKind} {l : List Nat} {i : Nat} {z : Int} (v : Nat) (hz : z = (v : Nat)) (h : i < l.length) : (uav k l).take i ++ [.int k z] ++ (uav k l).drop (i + 1) = uav k (l.set i v) := by
 subst hz; exact put_uav h
def Ar.give (A : Ar) (h : Nat) : Ar :=
 if A.gens.getD (h % 65536) 0 = A.most then { A with sts := A.sts.set (h % 65536) 2 }
 else { A with gens := A.gens.set (h % 65536) (h / 65536 + 1), sts := A.sts.set (h % 65536) 0, cells := A.cells.set A.k (h % 65536), k := A.k + 1 }
theorem give_ok {p : Pa} {A : Ar} {h : Nat} (hA : ArAt p σ A) (ok : A.ok) (hh : A.has h) (hk : A.k < A.n) : ACalls Tryz.prog 164 [.ptr p.l 0, .int .u64 h] σ (fun v σ' => (∃ b, v = .tup [.bool b, .int .i64 0]) /\ ArAt p σ' (A.give h) /\ Fr p σ σ') := by
 have hl := hA.bl
 have hb1 := hA.b1
 have hb2 := hA.b2
 have hb3 := hA.b3
 have hlt := hh.lt
 have hn1 := ok.n1
 have hn := Pa.nes hA.ne
 have g2 : (uav .u8 A.sts)[h % 65536]? = some (.int .u8 (1 : Nat)) := by rw [get_uav (by rw [ok.c2]; exact hlt), hh.st]
 have g3 : (uav .u64 A.gens)[h % 65536]? = some (.int .u64 (h / 65536 : Nat)) := by rw [get_uav (by rw [ok.c3]; exact hlt), hh.gn]
 have l2 : (uav .u8 A.sts).length = A.n := by rw [len_uav, ok.c2]
 have l3 : (uav .u64 A.gens).length = A.n := by rw [len_uav, ok.c3]
 by_cases hm : A.gens.getD (h % 65536) 0 = A.most
 ·have e : A.give h = { A with sts := A.sts.set (h % 65536) 2 } := if_pos hm
  rw [hh.gn] at hm
  refine FOk.calls ok164 (by simp [a164]) (wpc_sound hmix ?_)
  show wpc _ _ _ c164 _ _ _
  simp (disch := first | exact dA | fail) only [↓V0, VV, reduceCtorEq, seval, a164]
  refine callQ (fslot_ok hA ok hh) ?_
  simp (disch := first | exact dA | fail) only [↓V0, VV, reduceCtorEq, seval, a164, hl, hb2, hb3, g2, g3, l2, l3, hn, eq_true (show ((h / 65536 : Nat) : Int) = (A.most : Int) by omega)]
  refine ⟨⟨true, rfl⟩, ?_, ?_⟩
  ·rw [e, put_z (z := 2) 2 rfl (by rw [ok.c2]; exact hlt)]
   refine ArAt.mk2 hA (by first | omega | (simp only [set_n, new_n] <;> omega)) ?_ ?_ ?_ ?_ ?_ ?_ <;> (simp (disch := omega) only [lk_set, lk_new, sn_ne, snk_ne, ne_sn, ne_snk, set_n, new_n, if_true, if_false, Option.map_some, hA.ba, hA.bl, hA.b1, hA.b2, hA.b3, hA.bm, hn] <;> first | done | rfl)
  ·exact Fr.set (Fr.refl _ _) (.inr (.inr (.inr (.inl rfl)))) _
 ·have e : A.give h = { A with gens := A.gens.set (h % 65536) (h / 65536 + 1), sts := A.sts.set (h % 65536) 0, cells := A.cells.set A.k (h % 65536), k := A.k + 1 } := if_neg hm
  rw [hh.gn] at hm
  have hho := hh.ho
  have hg : h / 65536 < 4294967296 := hho.2.2
  have l1 : (iav A.cells).length = A.n := by rw [len_iav, ok.c1]
  refine FOk.calls ok164 (by simp [a164]) (wpc_sound hmix ?_)
  show wpc _ _ _ c164 _ _ _
  simp (disch := first | exact dA | fail) only [↓V0, VV, reduceCtorEq, seval, a164]
  refine callQ (fslot_ok hA ok hh) ?_
  simp (disch := first | exact dA | fail) only [↓V0, VV, reduceCtorEq, seval, a164, hl, hb1, hb2, hb3, g2, g3, l1, l2, l3, hn, eq_false (show ¬((h / 65536 : Nat) : Int) = (A.most : Int) by omega)]
  have hp1 : p.b1 < σ.n := hA.lt.2.2.1
  have hw : ∀ σ2 : St, lk σ2.H p.b1 = some (.arr (iav A.cells)) -> appA false 1 8 (.hs p.b1 0 A.k A.n) (.vs [.int .i64 (h % 65536 : Nat)] .ex) σ2 = .v (.hs p.b1 0 (A.k + 1) A.n) (σ2.set p.b1 (.arr (iav (A.cells.set A.k (h % 65536))))) := fun σ2 h2 => by
   rw [appA_hs h2 (by omega) (by rw [l1]; omega) rfl]
   simp only [AV.cells, putCells, Nat.zero_add, Nat.mul_one, List.length_cons, List.length_nil]
   rw [put_iav (by rw [ok.c1]; exact hk)]
  rw [hw _ (by simp (disch := first | exact dA | fail) only [↓V0, VV, reduceCtorEq, seval, a164, hn, hb1])]
  simp (disch := first | exact dA | fail) only [↓V0, VV, reduceCtorEq, seval, a164, hl, hn]
  rw [put_z (h / 65536 + 1) (by omega) (by rw [ok.c3]; exact hlt), put_z (z := 0) 0 rfl (by rw [ok.c2]; exact hlt)]
  refine ⟨⟨false, rfl⟩, ?_, ?_⟩
  ·rw [e]
   refine ArAt.mk2 hA (by first | omega | (simp only [set_n, new_n] <;> omega)) ?_ ?_ ?_ ?_ ?_ ?_ <;> (simp (disch := omega) only [lk_set, lk_new, sn_ne, snk_ne, ne_sn, ne_snk, set_n, new_n, if_true, if_false, Option.map_some, hA.ba, hA.bl, hA.b1, hA.b2, hA.b3, hA.bm, hn] <;> first | done | rfl)
  ·exact Fr.set (Fr.set (Fr.set (Fr.set (Fr.refl _ _) (.inr (.inr (.inr (.inr (.inl rfl))))) _) (.inr (.inr (.inr (.inl rfl)))) _) (.inr (.inr (.inl rfl))) _) (.inr (.inl rfl)) _
end Go.Proofs.YtekhblefchceaaaGreat.AM

/- Contract: arena.Free; what it leaves. -/
set_option maxRecDepth 20000
namespace Go.Proofs.YtekhblefchceaaaGreat.AM
open Go Go.Proofs
variable {σ : St}
theorem fk_idx (h : Nat) (x : Nd) : ∀ (es : List (Nat × Nd × Nat)) (j : Nat), ((es.find? fun e => e.1 == h).map fun e => e.2.1) = some x -> findKeyA .i (.int .u64 h) (es.map mE) j = some (some (j + es.findIdx (fun e => e.1 == h), x.av))
 | [], j, hx => by simp at hx
 | e :: es, j, hx => by
  by_cases he : e.1 = h
  ·simp [he] at hx
   subst hx
   simp [findKeyA, mE, eqSc, he, List.findIdx_cons]
  ·have h1 : (e.1 == h) = false := by simpa using he
   simp only [List.find?_cons, h1] at hx
   have ih := fk_idx h x es (j + 1) hx
   have h2 : ¬ ((h : Int) = (e.1 : Int)) := by omega
   simp [findKeyA, mE, eqSc, h2, List.findIdx_cons, h1]
   rw [show (es.map mE) = es.map mE from rfl] at ih
   have h3 : j + (es.findIdx (fun e => e.1 == h) + 1) = j + 1 + es.findIdx (fun e => e.1 == h) := by omega
   rw [h3]
   exact ih
theorem eraseIdx_mp {α β : Type} (f : α -> β) : ∀ (l : List α) (i : Nat), (l.map f).eraseIdx i = (l.eraseIdx i).map f
 | [], i => by simp
 | a :: l, 0 => by simp
 | a :: l, i + 1 => by simp [eraseIdx_mp f l i]
noncomputable def Ar.freed (A : Ar) (h : Nat) : Ar := { A.give h with es := A.es.eraseIdx (A.es.findIdx fun e => e.1 == h), fr := wr .i64 (A.fr + 1) }
theorem give_rest (A : Ar) (h : Nat) : (A.give h).n = A.n /\ (A.give h).most = A.most /\ (A.give h).es = A.es /\ (A.give h).ck = A.ck /\ (A.give h).al = A.al /\ (A.give h).fr = A.fr /\ (A.give h).st = A.st := by
 unfold Ar.give
 split <;> exact ⟨rfl, rfl, rfl, rfl, rfl, rfl, rfl⟩
theorem afree_ok {p : Pa} {A : Ar} {h : Nat} {x : Nd} (hA : ArAt p σ A) (ok : A.ok) (hh : A.has h) (hk : A.k < A.n) (hg : A.get h = some x) :
  ACalls Tryz.prog 90 [.ptr p.a 0, .int .u64 h] σ (fun v σ' => v = .int .i64 0 /\ ArAt p σ' (A.freed h) /\ Fr p σ σ') := by
 have ha := hA.ba
 have hn := Pa.nes hA.ne
 have hi := fk_idx h x A.es 0 hg
 rw [Nat.zero_add] at hi
 refine FOk.calls ok90 (by simp [a90]) (wpc_sound hmix ?_)
 show wpc _ _ _ c90 _ _ _
 simp (disch := first | exact dA | fail) only [↓V0, VV, reduceCtorEq, seval, a90, ha]
 refine (give_ok hA ok hh hk).mono ?_
 rintro _ σ2 ⟨⟨b, rfl⟩, hA2, hF⟩
 have ha2 := hA2.ba
 have hm2 := hA2.bm
 obtain ⟨g1, g2, g3, g4, g5, g6, g7⟩ := give_rest A h
 rw [g3] at hm2
 rw [g6] at ha2
 simp (disch := first | exact dA | fail) only [↓V0, VV, reduceCtorEq, seval, a90, ha2, hm2, hi, hn, List.getElem?_cons_zero, List.getElem?_cons_succ]
 refine ⟨?_, Fr.set (Fr.set hF (.inr (.inr (.inr (.inr (.inr rfl))))) _) (.inl rfl) _⟩
 rw [eraseIdx_mp]
 have ha3 := hA2.ba
 refine ArAt.mk2 hA2 (by first | omega | (simp only [set_n, new_n] <;> omega)) ?_ ?_ ?_ ?_ ?_ ?_ <;> (simp (disch := omega) only [lk_set, lk_new, sn_ne, snk_ne, ne_sn, ne_snk, set_n, new_n, if_true, if_false, Option.map_some, hA2.ba, hA2.bl, hA2.b1, hA2.b2, hA2.b3, hA2.bm, hn, Ar.freed] <;> first | done | rfl)
end Go.Proofs.YtekhblefchceaaaGreat.AM

/- What Alloc and Free keep of an arena. -/
set_option maxRecDepth 20000
namespace Go.Proofs.YtekhblefchceaaaGreat.AM
open Go Go.Proofs
variable {σ : St}
theorem nodup_le : ∀ (n : Nat) (l : List Nat), l.Nodup -> (∀ x, x ∈ l -> x < n) -> l.length <= n
 | 0, l, _, h => by
  cases l with
  | nil => simp
  | cons a l => exact absurd (h a (by simp)) (by omega)
 | n + 1, l, hd, h => by
  have h1 := nodup_le n (l.erase n) (hd.erase n) fun x hx => by
   have h2 := (hd.mem_erase_iff).1 hx
   have := h x h2.2
   have := h2.1
   omega
  have := List.length_erase (a := n) (l := l)
  split at this <;> omega
structure Ar.Lv (A : Ar) : Prop where
 ok : A.ok
 fl : ∀ h x, A.get h = some x -> ∀ s, s ∈ A.cells.take A.k -> h % 65536 ≠ s
 nd : (A.cells.take A.k).Nodup
 lv : ∀ h x, A.get h = some x -> A.has h
 nk : (A.es.map (·.1)).Nodup
 gm : ∀ g, g ∈ A.gens -> g <= A.most
 mm : A.most < 4294967296
theorem Ar.get_mem {A : Ar} {h : Nat} {x : Nd} (hg : A.get h = some x) : h ∈ A.es.map (·.1) := by
 unfold Ar.get at hg
 rw [Option.map_eq_some_iff] at hg
 obtain ⟨e, he, _⟩ := hg
 have h1 := List.mem_of_find?_eq_some he
 have h2 := List.find?_some he
 simp only [beq_iff_eq] at h2
 rw [<- h2]
 exact List.mem_map_of_mem h1
theorem Ar.get_none {A : Ar} {h : Nat} (hg : A.get h = none) : h ∉ A.es.map (·.1) := by
 intro hm
 obtain ⟨e, he, rfl⟩ := List.mem_map.1 hm
 unfold Ar.get at hg
 rw [Option.map_eq_none_iff, List.find?_eq_none] at hg
 have := hg e he
 simp at this
theorem Ar.Lv.room {A : Ar} (l : A.Lv) {h : Nat} {x : Nd} (hg : A.get h = some x) : A.k < A.n := by
 have hs := l.fl h x hg
 have h1 : (h % 65536 :: A.cells.take A.k).Nodup := List.nodup_cons.2 ⟨fun hm => hs _ hm rfl, l.nd⟩
 have h2 := nodup_le A.n _ h1 fun y hy => by
  rcases List.mem_cons.1 hy with rfl | hy
  ·exact (l.lv h x hg).lt
  ·exact l.ok.cl y (List.mem_of_mem_take hy)
 have := l.ok.kn
 have := l.ok.c1
 rw [List.length_cons, List.length_take] at h2
 omega
theorem get_erase {h h' : Nat} : ∀ (es : List (Nat × Nd × Nat)), (es.map (·.1)).Nodup -> (((es.eraseIdx (es.findIdx fun e => e.1 == h)).find? fun e => e.1 == h').map fun e => e.2.1) = if h' = h then none else ((es.find? fun e => e.1 == h').map fun e => e.2.1)
 | [], _ => by simp
 | e :: es, hd => by
  simp only [List.map_cons, List.nodup_cons] at hd
  have ih := get_erase (h := h) (h' := h') es hd.2
  by_cases he : e.1 = h
  ·have h1 : (e.1 == h) = true := by simpa using he
   simp only [List.findIdx_cons, h1, cond_true, List.eraseIdx_zero, List.tail_cons]
   by_cases hh : h' = h
   ·rw [if_pos hh, Option.map_eq_none_iff, List.find?_eq_none]
    intro y hy
    simp only [beq_iff_eq]
    intro e2
    exact hd.1 (by rw [he, <- hh, <- e2]; exact List.mem_map_of_mem hy)
   ·rw [if_neg hh]
    have h2 : (e.1 == h') = false := by rw [he]; simpa using fun e => hh e.symm
    rw [List.find?_cons, h2]
  ·have h1 : (e.1 == h) = false := by simpa using he
   simp only [List.findIdx_cons, h1, cond_false, List.eraseIdx_cons_succ]
   by_cases h2 : e.1 = h'
   ·have h3 : (e.1 == h') = true := by simpa using h2
    rw [List.find?_cons, h3, List.find?_cons, h3, if_neg (fun e2 => he (h2.trans e2))]
   ·have h3 : (e.1 == h') = false := by simpa using h2
    rw [List.find?_cons, h3, List.find?_cons, h3]
    exact ih
theorem Ar.Lv.get_freed {A : Ar} (l : A.Lv) (h h' : Nat) : (A.freed h).get h' = if h' = h then none else A.get h' := by
 unfold Ar.get Ar.freed
 exact get_erase A.es l.nk
theorem Ar.Lv.freed {A : Ar} (l : A.Lv) {h : Nat} {x : Nd} (hg : A.get h = some x) : (A.freed h).Lv /\ A.k <= (A.freed h).k := by
 have hk := l.room hg
 have hh := l.lv h x hg
 have ok := l.ok
 have hlt := hh.lt
 have hgl : ∀ g, A.gens.getD (h % 65536) 0 = g -> g ∈ A.gens := fun g e => by
  have h1 : h % 65536 < A.gens.length := by rw [ok.c3]; exact hlt
  rw [<- e, List.getD_eq_getElem?_getD, List.getElem?_eq_getElem h1]
  exact List.getElem_mem h1
 have hne : ∀ h' y, A.get h' = some y -> h' ≠ h -> h' % 65536 ≠ h % 65536 := fun h' y hy hn e => by
  have h1 := (l.lv h' y hy).gn
  rw [e, hh.gn] at h1
  omega
 have gf := fun h' => l.get_freed h h'
 have other : ∀ h' y, (A.freed h).get h' = some y -> A.get h' = some y /\ h' ≠ h := fun h' y hy => by
  rw [gf] at hy
  split at hy
  ·cases hy
  ·rename_i hn; exact ⟨hy, hn⟩
 have nk : ((A.freed h).es.map (·.1)).Nodup := by
  show ((A.es.eraseIdx _).map (·.1)).Nodup
  rw [<- eraseIdx_mp]
  exact l.nk.sublist (List.eraseIdx_sublist _ _)
 by_cases hm : A.gens.getD (h % 65536) 0 = A.most
 ·have e : A.give h = { A with sts := A.sts.set (h % 65536) 2 } := if_pos hm
  have e2 : A.freed h = { A with sts := A.sts.set (h % 65536) 2, es := A.es.eraseIdx (A.es.findIdx fun e => e.1 == h), fr := wr .i64 (A.fr + 1) } := by unfold Ar.freed; rw [e]
  refine ⟨⟨?_, ?_, ?_, ?_, nk, ?_, ?_⟩, ?_⟩
  ·rw [e2]
   exact ⟨ok.c1, by simp [ok.c2], ok.c3, ok.kn, ok.n1, ok.cl, ok.g1⟩
  ·intro h' y hy s hs
   obtain ⟨a1, a2⟩ := other h' y hy
   rw [e2] at hs
   exact l.fl h' y a1 s hs
  ·rw [e2]; exact l.nd
  ·intro h' y hy
   obtain ⟨a1, a2⟩ := other h' y hy
   have b := l.lv h' y a1
   rw [e2]
   refine ⟨b.ho, b.lt, ?_, b.gn⟩
   show (A.sts.set (h % 65536) 2).getD (h' % 65536) 0 = 1
   rw [List.getD_eq_getElem?_getD, List.getElem?_set_ne (fun e => hne h' y a1 a2 e.symm), <- List.getD_eq_getElem?_getD]
   exact b.st
  ·rw [e2]; exact l.gm
  ·rw [e2]; exact l.mm
  ·rw [e2]; exact Nat.le_refl _
 ·have e : A.give h = { A with gens := A.gens.set (h % 65536) (h / 65536 + 1), sts := A.sts.set (h % 65536) 0, cells := A.cells.set A.k (h % 65536), k := A.k + 1 } := if_neg hm
  have e2 : A.freed h = { A with gens := A.gens.set (h % 65536) (h / 65536 + 1), sts := A.sts.set (h % 65536) 0, cells := A.cells.set A.k (h % 65536), k := A.k + 1, es := A.es.eraseIdx (A.es.findIdx fun e => e.1 == h), fr := wr .i64 (A.fr + 1) } := by unfold Ar.freed; rw [e]
  have hg2 : h / 65536 + 1 <= A.most := by
   have := l.gm _ (hgl _ rfl)
   rw [hh.gn] at this hm
   omega
  have ht : (A.cells.set A.k (h % 65536)).take (A.k + 1) = A.cells.take A.k ++ [h % 65536] := by
   have h1 : A.k < A.cells.length := by rw [ok.c1]; exact hk
   rw [List.take_succ_eq_append_getElem (by rw [List.length_set]; exact h1), List.getElem_set_self]
   rw [List.take_set_of_le (Nat.le_refl _)]
  refine ⟨⟨?_, ?_, ?_, ?_, nk, ?_, ?_⟩, ?_⟩
  ·rw [e2]
   refine ⟨by simp [ok.c1], by simp [ok.c2], by simp [ok.c3], hk, ok.n1, fun y hy => ?_, fun g hg => ?_⟩
   ·rcases List.mem_or_eq_of_mem_set hy with hy | rfl
    ·exact ok.cl y hy
    ·exact hlt
   ·rcases List.mem_or_eq_of_mem_set hg with hg | rfl
    ·exact ok.g1 g hg
    ·have := l.mm; omega
  ·intro h' y hy s hs
   obtain ⟨a1, a2⟩ := other h' y hy
   rw [e2] at hs
   simp only at hs
   rw [ht, List.mem_append, List.mem_singleton] at hs
   rcases hs with hs | rfl
   ·exact l.fl h' y a1 s hs
   ·exact hne h' y a1 a2
  ·rw [e2]
   show ((A.cells.set A.k (h % 65536)).take (A.k + 1)).Nodup
   rw [ht]
   refine List.nodup_append.2 ⟨l.nd, by simp, fun a ha b hb => ?_⟩
   simp only [List.mem_singleton] at hb
   subst hb
   exact fun e => l.fl h x hg _ ha e.symm
  ·intro h' y hy
   obtain ⟨a1, a2⟩ := other h' y hy
   have b := l.lv h' y a1
   have hn := hne h' y a1 a2
   rw [e2]
   refine ⟨b.ho, b.lt, ?_, ?_⟩
   ·show (A.sts.set (h % 65536) 0).getD (h' % 65536) 0 = 1
    rw [List.getD_eq_getElem?_getD, List.getElem?_set_ne (fun e => hn e.symm), <- List.getD_eq_getElem?_getD]
    exact b.st
   ·show (A.gens.set (h % 65536) (h / 65536 + 1)).getD (h' % 65536) 0 = h' / 65536
    rw [List.getD_eq_getElem?_getD, List.getElem?_set_ne (fun e => hn e.symm), <- List.getD_eq_getElem?_getD]
    exact b.gn
  ·rw [e2]
   intro g hg
   rcases List.mem_or_eq_of_mem_set hg with hg | rfl
   ·exact l.gm g hg
   ·exact hg2
  ·rw [e2]; exact l.mm
  ·rw [e2]; exact Nat.le_succ _
end Go.Proofs.YtekhblefchceaaaGreat.AM

/- Contract: edit.Undo. -/
set_option maxRecDepth 20000
namespace Go.Proofs.YtekhblefchceaaaGreat.AM
open Go Go.Proofs
variable {σ : St}
def setE : Nat -> List Nat -> List MEnt
 | _, [] => []
 | j, h :: l => ⟨.int .u64 (h : Nat), .bool true, j⟩ :: setE (j + 1) l
theorem setE_app (l : List Nat) (h : Nat) : ∀ j, setE j (l ++ [h]) = setE j l ++ [⟨.int .u64 (h : Nat), .bool true, j + l.length⟩] := by
 induction l with
 | nil => intro j; simp [setE]
 | cons a l ih => intro j; simp only [List.cons_append, setE, ih, List.length_cons]; rw [show j + 1 + l.length = j + (l.length + 1) by omega]
theorem fk_out {h : Nat} : ∀ (l : List Nat) (j i : Nat), h ∉ l -> findKeyA .i (.int .u64 h) (setE j l) i = some none
 | [], _, _, _ => rfl
 | a :: l, j, i, hn => by
  have h1 : ¬ ((h : Int) = (a : Int)) := fun e => hn (List.mem_cons.2 (.inl (by omega)))
  simp [setE, findKeyA, eqSc, h1]
  exact fk_out l (j + 1) (i + 1) fun hm => hn (by simp [hm])
noncomputable def Ar.undo (A : Ar) (l : List Nat) : Ar := l.foldr (fun h B => B.freed h) A
structure UI (p : Pa) (σ : St) (B : Ar) (fr : List Nat) (σ' : St) : Prop where
 a : ArAt p σ' (B.undo fr)
 f : FrX p σ σ'
theorem undo_lv {B : Ar} (l : B.Lv) : ∀ (fr : List Nat), fr.Nodup -> (∀ h, h ∈ fr -> ∃ x, B.get h = some x) -> (B.undo fr).Lv /\ B.k <= (B.undo fr).k /\ ∀ h, (B.undo fr).get h = if h ∈ fr then none else B.get h
 | [], _, _ => ⟨l, Nat.le_refl _, fun h => by simp [Ar.undo]⟩
 | a :: fr, hd, hm => by
  rw [List.nodup_cons] at hd
  obtain ⟨i1, i2, i3⟩ := undo_lv l fr hd.2 fun h hh => hm h (by simp [hh])
  obtain ⟨x, hx⟩ := hm a (by simp)
  have hg : (B.undo fr).get a = some x := by rw [i3, if_neg hd.1]; exact hx
  obtain ⟨j1, j2⟩ := i1.freed hg
  refine ⟨j1, Nat.le_trans i2 j2, fun h => ?_⟩
  show ((B.undo fr).freed a).get h = _
  rw [i1.get_freed, i3]
  by_cases h1 : h = a
  ·subst h1; simp
  ·by_cases h2 : h ∈ fr <;> simp [h1, h2]
theorem undo_ok {p : Pa} {B : Ar} {fr ds : List Nat} (r : Rt) (hA : ArAt p σ B) (l : B.Lv) (hd : fr.Nodup) (hm : ∀ h, h ∈ fr -> ∃ x, B.get h = some x) (hfl : fr.length <= 100000) :
  ACalls Tryz.prog 38 [.ptr p.a 0, .agg (r.cs ++ [.vs (uav .u64 fr) .no, .vs (uav .u64 ds) .no])] σ (fun v σ' => v = .int .i64 0 /\ ArAt p σ' (B.undo fr) /\ FrX p σ σ') := by
 obtain ⟨q1, q2, q3, q4, q5, q6⟩ := hA.lt
 have hp : ∀ β, σ.n <= β -> ¬ p.has β := fun β hβ h => by rcases h with e | e | e | e | e | e <;> omega
 have hll : (uav .u64 fr).length = fr.length := len_uav _ _
 have hgs : ∀ i (h : i < fr.length), (uav .u64 fr)[i]? = some (.int .u64 (fr[i] : Nat)) := fun i h => by simp [uav, h]
 refine FOk.calls ok38 (by simp [a38]) (wpc_sound hmix ?_)
 show wpc _ _ _ c38 _ _ _
 simp (disch := first | exact dA | fail) only [↓V0, VV, reduceCtorEq, seval, a38, Rt.cs, List.cons_append, List.nil_append]
 generalize hσ1 : St.new _ _ = σ1
 have hE1 : Ext σ σ1 := by rw [<- hσ1]; exact eA
 have k3 : lk σ1.H σ.n = some (.arr [.int .u64 r.h, .int .i64 r.ht, .int .i64 r.m.b, .int .i64 r.m.r, .int .i64 r.m.l, .vs (uav .u64 fr) .no, .vs (uav .u64 ds) .no]) := by rw [<- hσ1]; simp (disch := first | exact dA | fail) only [↓V0, VV, reduceCtorEq, seval, a38]
 have k5 : lk σ1.H (σ.n + 1) = some (.map (setE 0 (fr.take 0)) 0) := by rw [<- hσ1]; simp (disch := first | exact dA | fail) only [↓V0, VV, reduceCtorEq, seval, a38, List.take_zero, setE]
 have hn1 : σ.n + 2 <= σ1.n := by rw [<- hσ1]; simp only [new_n]; omega
 clear hσ1
 generalize hC : ((ACode.rg r38_11).seq (ACode.block 2 l38_18.loop)).seq (((ACode.rg r38_17).seq (ACode.block 4 l38_25.loop)).seq ((ACode.rg r38_23).seq ACode.ret)) = C
 refine AW.upto hmix (fun i ρ σ' => Ext σ σ' /\ σ.n + 2 <= σ'.n /\ lk σ'.H σ.n = some (.arr [.int .u64 r.h, .int .i64 r.ht, .int .i64 r.m.b, .int .i64 r.m.r, .int .i64 r.m.l, .vs (uav .u64 fr) .no, .vs (uav .u64 ds) .no]) /\ lk σ'.H (σ.n + 1) = some (.map (setE 0 (fr.take i)) i) /\
   ρ 0 = .ptr p.a 0 /\ ρ 3 = .ptr σ.n 0 /\ ρ 5 = .map (σ.n + 1) /\ ρ 16 = .vs (uav .u64 fr) .no /\ ρ 17 = .int .i64 (fr.length : Nat) /\ ρ 18 = .int .i64 (i : Nat)) fr.length ⟨hE1, hn1, k3, k5, by exact wA, by exact wA, by exact wA, by exact wA, by (simp only [↓W0, W, reduceCtorEq, seval, hll]; first | done | rfl | omega | simp), by exact wA⟩ (fun i ρ σ' hi hJ => ?_) (fun ρ σ' hJ => ?_)
 ·obtain ⟨hE, hn2, h3, h5, r0, r3, r5, r16, r17, r18⟩ := hJ
  have hgi := hgs i hi
  have hs := List.take_succ_eq_append_getElem hi
  have hnm : fr[i] ∉ fr.take i := fun hm => by
   have h1 := List.take_append_drop i fr
   rw [List.drop_eq_getElem_cons hi] at h1
   rw [<- h1] at hd
   exact (List.nodup_append.1 hd).2.2 _ hm _ List.mem_cons_self rfl
  have hf := fk_out (fr.take i) 0 0 hnm
  have hlt : (fr.take i).length = i := by rw [List.length_take]; omega
  have hsa := setE_app (fr.take i) fr[i] 0
  rw [hlt, Nat.zero_add, <- hs] at hsa
  simp (disch := first | exact dA | fail) only [↓V0, VV, reduceCtorEq, seval, a38, r0, r3, r5, r16, r17, r18, hgi, h5, hf, isKey]
  rw [<- hsa]
  exact ⟨hE.set (by omega) _, h3, rfl, rfl⟩
 ·obtain ⟨hE, hn2, h3, h5, r0, r3, r5, r16, r17, r18⟩ := hJ
  subst hC
  simp (disch := first | exact dA | fail) only [↓V0, VV, reduceCtorEq, seval, a38, r0, r3, r5, r16, r17, r18, h3]
  clear r5 r16 r17 r18 h5
  have hA' := hA.ext hE
  generalize hC : ((ACode.rg r38_17).seq (ACode.block 4 l38_25.loop)).seq ((ACode.rg r38_23).seq ACode.ret) = C
  refine AW.upto hmix (fun i ρ σ'' => σ'' = σ' /\ ρ 0 = .ptr p.a 0 /\ ρ 3 = .ptr σ.n 0 /\ ρ 29 = .vs (uav .u64 fr) .no /\ ρ 30 = .int .i64 (fr.length : Nat) /\ ρ 31 = .int .i64 (i : Nat)) fr.length ⟨rfl, by (simp only [↓W0, W, reduceCtorEq, seval, r0]; first | done | rfl | omega | simp), by (simp only [↓W0, W, reduceCtorEq, seval, r3]; first | done | rfl | omega | simp), by exact wA, by (simp only [↓W0, W, reduceCtorEq, seval, hll]; first | done | rfl | omega | simp), by exact wA⟩ (fun i ρ σ'' hi hJ => ?_) (fun ρ σ'' hJ => ?_)
  ·obtain ⟨rfl, r0, r3, r29, r30, r31⟩ := hJ
   have hgi := hgs i hi
   obtain ⟨x, hx⟩ := hm fr[i] (List.getElem_mem hi)
   simp (disch := first | exact dA | fail) only [↓V0, VV, reduceCtorEq, seval, a38, r0, r3, r29, r30, r31, hgi]
   refine callQ (alive_ok hA' l.ok (l.lv _ x hx)) ?_
   simp (disch := first | exact dA | fail) only [↓V0, VV, reduceCtorEq, seval, a38, r0, r3, r29, r30, r31]
   rfl
  ·obtain ⟨rfl, r0, r3, r29, r30, r31⟩ := hJ
   subst hC
   simp (disch := first | exact dA | fail) only [↓V0, VV, reduceCtorEq, seval, a38, r0, r3, r29, r30, r31, h3]
   refine AW.lp hmix (fun k ρ τ => k <= fr.length /\ UI p σ B (fr.drop k) τ /\ lk τ.H σ.n = some (.arr [.int .u64 r.h, .int .i64 r.ht, .int .i64 r.m.b, .int .i64 r.m.r, .int .i64 r.m.l, .vs (uav .u64 fr) .no, .vs (uav .u64 ds) .no]) /\ σ.n < τ.n /\
    ρ 0 = .ptr p.a 0 /\ ρ 3 = .ptr σ.n 0 /\ ρ 10 = .int .i64 ((k : Int) - 1)) fr.length ⟨Nat.le_refl _, ⟨by rw [List.drop_length]; exact hA', .ext hE⟩, h3, ?_, by (simp only [↓W0, W, reduceCtorEq, seval, r0]; first | done | rfl | omega | simp), by (simp only [↓W0, W, reduceCtorEq, seval, r3]; first | done | rfl | omega | simp), by (simp only [↓W0, W, reduceCtorEq, seval, hll]; first | done | rfl | omega | simp)⟩ (fun k ρ τ hJ => ?_)
   ·omega
   ·obtain ⟨hk, ⟨hA3, hF⟩, k3', hn, s0, s3, s10⟩ := hJ
    cases k with
    | zero =>
     simp (disch := first | exact dA | fail) only [↓V0, VV, reduceCtorEq, seval, a38, s0, s3, s10, eq_false (show ¬ (0 : Int) <= ((0 : Nat) : Int) - 1 by omega)]
     rw [List.drop_zero] at hA3
     exact ⟨hA3, hF⟩
    | succ k =>
     have hgi := hgs k (by omega)
     have e1 : (((k + 1 : Nat) : Int) - 1) = (k : Int) := by omega
     rw [e1] at s10
     have hdr : fr.drop k = fr[k] :: fr.drop (k + 1) := List.drop_eq_getElem_cons (by omega)
     have hsub : (fr.drop (k + 1)).Sublist fr := List.drop_sublist _ _
     obtain ⟨l1, l2, l3⟩ := undo_lv l (fr.drop (k + 1)) (hd.sublist hsub) fun h hh => hm h (hsub.subset hh)
     obtain ⟨x, hx⟩ := hm fr[k] (List.getElem_mem _)
     have hg : (B.undo (fr.drop (k + 1))).get fr[k] = some x := by
      rw [l3, if_neg]
      ·exact hx
      ·have h1 := hd.sublist (List.drop_sublist k fr)
       rw [hdr, List.nodup_cons] at h1
       exact h1.1
     simp (disch := first | exact dA | fail) only [↓V0, VV, reduceCtorEq, seval, a38, s0, s3, s10, k3', hgi]
     refine (afree_ok hA3 l1.ok (l1.lv _ x hg) (l1.room hg) hg).mono ?_
     rintro _ τ2 ⟨rfl, hA4, hF4⟩
     simp (disch := first | exact dA | fail) only [↓V0, VV, reduceCtorEq, seval, a38, s0, s3, s10]
     exact ⟨k, by omega, by omega, ⟨by rw [hdr]; exact hA4, hF.trans hF4.x⟩, (hF4.2 _ hn (hp _ (Nat.le_refl _))).trans k3', by rw [hF4.1]; exact hn, rfl⟩
end Go.Proofs.YtekhblefchceaaaGreat.AM

