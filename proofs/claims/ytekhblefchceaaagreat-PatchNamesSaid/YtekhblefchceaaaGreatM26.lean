/- The functions that the interpreter knows. -/
import Derived.Test.YtekhblefchceaaaGreatMD
import Derived.Test.YtekhblefchceaaaGreatK1
import Derived.Test.YtekhblefchceaaaGreatK2
import Derived.Test.YtekhblefchceaaaGreatK3
set_option linter.unusedVariables false
set_option linter.unusedSimpArgs false
set_option maxRecDepth 100000
set_option linter.unusedVariables false
namespace Go.Proofs.YtekhblefchceaaaGreat.AM
open Go Go.Proofs
inductive BT (α : Type) where
  | leaf
  | node (k : Nat) (a : α) (l r : BT α)
noncomputable def look {α : Type} (t : BT α) (j : Nat) : Option α :=
  BT.rec (motive := fun _ => Option α) none (fun k a _ _ l r => Bool.rec (motive := fun _ => Option α) (Bool.rec (motive := fun _ => Option α) r l (Nat.ble j k)) (some a) (Nat.beq k j)) t
def BT.All {α : Type} (R : Nat → α → Prop) : BT α → Prop
  | .leaf => True
  | .node k a l r => R k a ∧ l.All R ∧ r.All R
theorem look_all {α : Type} {R : Nat → α → Prop} : ∀ {t : BT α} {j : Nat} {a : α}, t.All R → look t j = some a → R j a
  | .leaf, j, a, _, h => by cases h
  | .node k b l r, j, a, hr, h => by
    have e : look (.node k b l r) j = Bool.rec (motive := fun _ => Option α) (Bool.rec (motive := fun _ => Option α) (look r j) (look l j) (Nat.ble j k)) (some b) (Nat.beq k j) := rfl
    rw [e] at h
    cases h1 : Nat.beq k j with
    | true =>
      rw [h1] at h
      simp only [Option.some.injEq] at h
      rw [← Nat.eq_of_beq_eq_true h1, ← h]; exact hr.1
    | false =>
      rw [h1] at h
      cases h2 : Nat.ble j k with
      | true => rw [h2] at h; exact look_all hr.2.1 h
      | false => rw [h2] at h; exact look_all hr.2.2 h
def tab : BT AFunc := .node 115 a115 (.node 53 a53 (.node 23 a23 (.node 14 a14 (.node 9 a9 (.node 7 a7 (.node 4 a4 (.node 3 a3 (.leaf) (.leaf)) (.leaf)) (.node 8 a8 (.leaf) (.leaf))) (.node 12 a12 (.node 11 a11 (.node 10 a10 (.leaf) (.leaf)) (.leaf)) (.node 13 a13 (.leaf) (.leaf)))) (.node 19 a19 (.node 17 a17 (.node 16 a16 (.node 15 a15 (.leaf) (.leaf)) (.leaf)) (.node 18 a18 (.leaf) (.leaf))) (.node 21 a21 (.node 20 a20 (.leaf) (.leaf)) (.node 22 a22 (.leaf) (.leaf))))) (.node 44 a44 (.node 39 a39 (.node 26 a26 (.node 25 a25 (.node 24 a24 (.leaf) (.leaf)) (.leaf)) (.node 35 a35 (.leaf) (.leaf))) (.node 42 a42 (.node 41 a41 (.node 40 a40 (.leaf) (.leaf)) (.leaf)) (.node 43 a43 (.leaf) (.leaf)))) (.node 49 a49 (.node 47 a47 (.node 46 a46 (.node 45 a45 (.leaf) (.leaf)) (.leaf)) (.node 48 a48 (.leaf) (.leaf))) (.node 51 a51 (.node 50 a50 (.leaf) (.leaf)) (.node 52 a52 (.leaf) (.leaf)))))) (.node 96 a96 (.node 66 a66 (.node 58 a58 (.node 56 a56 (.node 55 a55 (.node 54 a54 (.leaf) (.leaf)) (.leaf)) (.node 57 a57 (.leaf) (.leaf))) (.node 64 a64 (.node 60 a60 (.node 59 a59 (.leaf) (.leaf)) (.leaf)) (.node 65 a65 (.leaf) (.leaf)))) (.node 92 a92 (.node 85 a85 (.node 83 a83 (.node 81 a81 (.leaf) (.leaf)) (.leaf)) (.node 91 a91 (.leaf) (.leaf))) (.node 94 a94 (.node 93 a93 (.leaf) (.leaf)) (.node 95 a95 (.leaf) (.leaf))))) (.node 106 a106 (.node 101 a101 (.node 99 a99 (.node 98 a98 (.node 97 a97 (.leaf) (.leaf)) (.leaf)) (.node 100 a100 (.leaf) (.leaf))) (.node 104 a104 (.node 103 a103 (.node 102 a102 (.leaf) (.leaf)) (.leaf)) (.node 105 a105 (.leaf) (.leaf)))) (.node 111 a111 (.node 109 a109 (.node 108 a108 (.node 107 a107 (.leaf) (.leaf)) (.leaf)) (.node 110 a110 (.leaf) (.leaf))) (.node 113 a113 (.node 112 a112 (.leaf) (.leaf)) (.node 114 a114 (.leaf) (.leaf))))))) (.node 221 a221 (.node 172 a172 (.node 155 a155 (.node 120 a120 (.node 118 a118 (.node 117 a117 (.node 116 a116 (.leaf) (.leaf)) (.leaf)) (.node 119 a119 (.leaf) (.leaf))) (.node 126 a126 (.node 122 a122 (.node 121 a121 (.leaf) (.leaf)) (.leaf)) (.node 130 a130 (.leaf) (.leaf)))) (.node 168 a168 (.node 166 a166 (.node 165 a165 (.node 156 a156 (.leaf) (.leaf)) (.leaf)) (.node 167 a167 (.leaf) (.leaf))) (.node 170 a170 (.node 169 a169 (.leaf) (.leaf)) (.node 171 a171 (.leaf) (.leaf))))) (.node 182 a182 (.node 177 a177 (.node 175 a175 (.node 174 a174 (.node 173 a173 (.leaf) (.leaf)) (.leaf)) (.node 176 a176 (.leaf) (.leaf))) (.node 180 a180 (.node 179 a179 (.node 178 a178 (.leaf) (.leaf)) (.leaf)) (.node 181 a181 (.leaf) (.leaf)))) (.node 213 a213 (.node 190 a190 (.node 189 a189 (.node 183 a183 (.leaf) (.leaf)) (.leaf)) (.node 191 a191 (.leaf) (.leaf))) (.node 219 a219 (.node 218 a218 (.leaf) (.leaf)) (.node 220 a220 (.leaf) (.leaf)))))) (.node 254 a254 (.node 231 a231 (.node 226 a226 (.node 224 a224 (.node 223 a223 (.node 222 a222 (.leaf) (.leaf)) (.leaf)) (.node 225 a225 (.leaf) (.leaf))) (.node 229 a229 (.node 228 a228 (.node 227 a227 (.leaf) (.leaf)) (.leaf)) (.node 230 a230 (.leaf) (.leaf)))) (.node 236 a236 (.node 234 a234 (.node 233 a233 (.node 232 a232 (.leaf) (.leaf)) (.leaf)) (.node 235 a235 (.leaf) (.leaf))) (.node 252 a252 (.node 251 a251 (.leaf) (.leaf)) (.node 253 a253 (.leaf) (.leaf))))) (.node 264 a264 (.node 259 a259 (.node 257 a257 (.node 256 a256 (.node 255 a255 (.leaf) (.leaf)) (.leaf)) (.node 258 a258 (.leaf) (.leaf))) (.node 262 a262 (.node 261 a261 (.node 260 a260 (.leaf) (.leaf)) (.leaf)) (.node 263 a263 (.leaf) (.leaf)))) (.node 277 a277 (.node 275 a275 (.node 274 a274 (.node 273 a273 (.leaf) (.leaf)) (.leaf)) (.node 276 a276 (.leaf) (.leaf))) (.node 279 a279 (.node 278 a278 (.leaf) (.leaf)) (.node 280 a280 (.leaf) (.leaf)))))))
theorem tab_all : tab.All (FOk Tryz.prog) := ⟨ok115, ⟨ok53, ⟨ok23, ⟨ok14, ⟨ok9, ⟨ok7, ⟨ok4, ⟨ok3, trivial, trivial⟩, trivial⟩, ⟨ok8, trivial, trivial⟩⟩, ⟨ok12, ⟨ok11, ⟨ok10, trivial, trivial⟩, trivial⟩, ⟨ok13, trivial, trivial⟩⟩⟩, ⟨ok19, ⟨ok17, ⟨ok16, ⟨ok15, trivial, trivial⟩, trivial⟩, ⟨ok18, trivial, trivial⟩⟩, ⟨ok21, ⟨ok20, trivial, trivial⟩, ⟨ok22, trivial, trivial⟩⟩⟩⟩, ⟨ok44, ⟨ok39, ⟨ok26, ⟨ok25, ⟨ok24, trivial, trivial⟩, trivial⟩, ⟨ok35, trivial, trivial⟩⟩, ⟨ok42, ⟨ok41, ⟨ok40, trivial, trivial⟩, trivial⟩, ⟨ok43, trivial, trivial⟩⟩⟩, ⟨ok49, ⟨ok47, ⟨ok46, ⟨ok45, trivial, trivial⟩, trivial⟩, ⟨ok48, trivial, trivial⟩⟩, ⟨ok51, ⟨ok50, trivial, trivial⟩, ⟨ok52, trivial, trivial⟩⟩⟩⟩⟩, ⟨ok96, ⟨ok66, ⟨ok58, ⟨ok56, ⟨ok55, ⟨ok54, trivial, trivial⟩, trivial⟩, ⟨ok57, trivial, trivial⟩⟩, ⟨ok64, ⟨ok60, ⟨ok59, trivial, trivial⟩, trivial⟩, ⟨ok65, trivial, trivial⟩⟩⟩, ⟨ok92, ⟨ok85, ⟨ok83, ⟨ok81, trivial, trivial⟩, trivial⟩, ⟨ok91, trivial, trivial⟩⟩, ⟨ok94, ⟨ok93, trivial, trivial⟩, ⟨ok95, trivial, trivial⟩⟩⟩⟩, ⟨ok106, ⟨ok101, ⟨ok99, ⟨ok98, ⟨ok97, trivial, trivial⟩, trivial⟩, ⟨ok100, trivial, trivial⟩⟩, ⟨ok104, ⟨ok103, ⟨ok102, trivial, trivial⟩, trivial⟩, ⟨ok105, trivial, trivial⟩⟩⟩, ⟨ok111, ⟨ok109, ⟨ok108, ⟨ok107, trivial, trivial⟩, trivial⟩, ⟨ok110, trivial, trivial⟩⟩, ⟨ok113, ⟨ok112, trivial, trivial⟩, ⟨ok114, trivial, trivial⟩⟩⟩⟩⟩⟩, ⟨ok221, ⟨ok172, ⟨ok155, ⟨ok120, ⟨ok118, ⟨ok117, ⟨ok116, trivial, trivial⟩, trivial⟩, ⟨ok119, trivial, trivial⟩⟩, ⟨ok126, ⟨ok122, ⟨ok121, trivial, trivial⟩, trivial⟩, ⟨ok130, trivial, trivial⟩⟩⟩, ⟨ok168, ⟨ok166, ⟨ok165, ⟨ok156, trivial, trivial⟩, trivial⟩, ⟨ok167, trivial, trivial⟩⟩, ⟨ok170, ⟨ok169, trivial, trivial⟩, ⟨ok171, trivial, trivial⟩⟩⟩⟩, ⟨ok182, ⟨ok177, ⟨ok175, ⟨ok174, ⟨ok173, trivial, trivial⟩, trivial⟩, ⟨ok176, trivial, trivial⟩⟩, ⟨ok180, ⟨ok179, ⟨ok178, trivial, trivial⟩, trivial⟩, ⟨ok181, trivial, trivial⟩⟩⟩, ⟨ok213, ⟨ok190, ⟨ok189, ⟨ok183, trivial, trivial⟩, trivial⟩, ⟨ok191, trivial, trivial⟩⟩, ⟨ok219, ⟨ok218, trivial, trivial⟩, ⟨ok220, trivial, trivial⟩⟩⟩⟩⟩, ⟨ok254, ⟨ok231, ⟨ok226, ⟨ok224, ⟨ok223, ⟨ok222, trivial, trivial⟩, trivial⟩, ⟨ok225, trivial, trivial⟩⟩, ⟨ok229, ⟨ok228, ⟨ok227, trivial, trivial⟩, trivial⟩, ⟨ok230, trivial, trivial⟩⟩⟩, ⟨ok236, ⟨ok234, ⟨ok233, ⟨ok232, trivial, trivial⟩, trivial⟩, ⟨ok235, trivial, trivial⟩⟩, ⟨ok252, ⟨ok251, trivial, trivial⟩, ⟨ok253, trivial, trivial⟩⟩⟩⟩, ⟨ok264, ⟨ok259, ⟨ok257, ⟨ok256, ⟨ok255, trivial, trivial⟩, trivial⟩, ⟨ok258, trivial, trivial⟩⟩, ⟨ok262, ⟨ok261, ⟨ok260, trivial, trivial⟩, trivial⟩, ⟨ok263, trivial, trivial⟩⟩⟩, ⟨ok277, ⟨ok275, ⟨ok274, ⟨ok273, trivial, trivial⟩, trivial⟩, ⟨ok276, trivial, trivial⟩⟩, ⟨ok279, ⟨ok278, trivial, trivial⟩, ⟨ok280, trivial, trivial⟩⟩⟩⟩⟩⟩⟩
theorem tab_ok : ∀ n af, look tab n = some af → FOk Tryz.prog n af := fun n af h => look_all tab_all h
def hints : Hints
  | 47, 13 => some (some 6, .p 0 (.p 1 (.q 2 (.q 3 (.q 4 (.p 5 (.b 6 (.p 7 (.p 8 (.p 9 (.z 10 (.z 11 (.p 12 (.nil))))))) 10 (.z 6 (.p 7 (.p 8 (.p 9 (.z 11 (.p 12 (.nil))))))))))))), [(2, [])])
  | 181, 10 => some (some 4, .p 0 (.p 1 (.q 2 (.p 3 (.z 4 (.p 5 (.p 6 (.p 7 (.z 8 (.p 9 (.nil)))))))))), [(2, [])])
  | 189, 9 => some (some 4, .p 0 (.p 1 (.q 2 (.p 3 (.z 4 (.p 5 (.p 6 (.p 7 (.p 8 (.nil))))))))), [(2, [])])
  | 232, 13 => some (some 6, .p 0 (.p 1 (.b 2 (.q 3 (.q 4 (.p 5 (.b 6 (.p 7 (.p 8 (.p 9 (.z 10 (.z 11 (.p 12 (.nil))))))) 10 (.z 6 (.p 7 (.p 8 (.p 9 (.z 11 (.p 12 (.nil))))))))))) 10 (.a 2 (.q 3 (.q 4 (.p 5 (.z 6 (.p 7 (.p 8 (.p 9 (.z 11 (.p 12 (.nil))))))))))))), [(2, [])])
  | 242, 13 => some (some 6, .p 0 (.p 1 (.b 2 (.q 3 (.q 4 (.p 5 (.b 6 (.p 7 (.p 8 (.p 9 (.z 10 (.z 11 (.p 12 (.nil))))))) 10 (.z 6 (.p 7 (.p 8 (.p 9 (.z 11 (.p 12 (.nil))))))))))) 10 (.a 2 (.q 3 (.q 4 (.p 5 (.z 6 (.p 7 (.p 8 (.p 9 (.z 11 (.p 12 (.nil))))))))))))), [(2, [])])
  | 16, 13 => some (some 6, .p 0 (.p 1 (.q 2 (.q 3 (.q 4 (.p 5 (.b 6 (.p 7 (.p 8 (.p 9 (.z 10 (.z 11 (.p 12 (.nil))))))) 10 (.z 6 (.p 7 (.p 8 (.p 9 (.z 11 (.p 12 (.nil))))))))))))), [(2, [])])
  | 22, 12 => some (none, .p 0 (.p 1 (.p 2 (.p 3 (.p 4 (.p 5 (.p 6 (.p 7 (.p 8 (.p 9 (.a 10 (.p 11 (.nil)))))))))))), [(5, [])])
  | 9, 13 => some (none, .p 0 (.p 1 (.p 2 (.p 3 (.p 5 (.p 6 (.p 7 (.p 8 (.p 9 (.p 11 (.a 4 (.p 10 (.p 12 (.nil))))))))))))), [(0, [])])
  | 3, 12 => some (some 10, .p 0 (.p 1 (.p 2 (.p 3 (.p 5 (.p 6 (.p 7 (.p 8 (.p 9 (.a 4 (.z 10 (.p 11 (.nil)))))))))))), [(0, [])])
  | 6, 35 => some (some 34, .p 0 (.p 1 (.p 2 (.p 3 (.p 4 (.p 5 (.p 6 (.p 7 (.p 10 (.p 11 (.p 12 (.p 13 (.p 15 (.p 16 (.p 17 (.p 18 (.p 21 (.p 22 (.p 23 (.p 24 (.p 25 (.p 26 (.p 27 (.p 28 (.p 29 (.p 30 (.p 31 (.p 32 (.a 8 (.p 9 (.p 14 (.a 19 (.p 20 (.p 33 (.z 34 (.nil))))))))))))))))))))))))))))))))))), [(0, []), (0, [2])])
  | 38, 8 => some (some 3, .p 0 (.p 2 (.p 4 (.a 1 (.z 3 (.z 5 (.z 6 (.p 7 (.nil)))))))), [(10, []), (11, [])])
  | 5, 16 => some (none, .p 0 (.p 1 (.p 2 (.p 3 (.p 6 (.p 9 (.p 10 (.p 11 (.p 12 (.p 13 (.a 4 (.p 5 (.p 7 (.a 8 (.p 14 (.p 15 (.nil)))))))))))))))), [(0, [])])
  | 30, 13 => some (some 11, .p 0 (.p 1 (.p 2 (.p 3 (.p 4 (.p 5 (.p 6 (.p 7 (.p 8 (.p 9 (.a 10 (.z 11 (.p 12 (.nil))))))))))))), [(0, []), (8, []), (0, [2])])
  | 15, 10 => some (some 9, .p 0 (.p 1 (.p 2 (.p 3 (.p 4 (.p 5 (.p 6 (.a 7 (.p 8 (.z 9 (.nil)))))))))), [(0, [])])
  | 19, 5 => some (some 3, .p 0 (.p 1 (.a 2 (.z 3 (.p 4 (.nil))))), [(4, [])])
  | 114, 12 => some (some 6, .p 0 (.p 1 (.p 2 (.p 3 (.p 5 (.a 4 (.z 6 (.p 7 (.p 8 (.p 9 (.z 10 (.p 11 (.nil)))))))))))), [(15, [])])
  | 129, 13 => some (some 7, .p 0 (.p 1 (.p 2 (.p 3 (.p 4 (.p 5 (.a 6 (.z 7 (.p 8 (.p 9 (.p 10 (.z 11 (.p 12 (.nil))))))))))))), [(16, [])])
  | 144, 5 => some (some 3, .p 0 (.p 1 (.a 2 (.z 3 (.p 4 (.nil))))), [(6, []), (7, [])])
  | 39, 6 => some (some 3, .p 0 (.p 2 (.a 1 (.z 3 (.p 4 (.p 5 (.nil)))))), [(5, []), (6, [])])
  | 6, 11 => some (some 10, .p 0 (.p 1 (.p 2 (.p 3 (.p 4 (.p 5 (.p 6 (.a 7 (.p 8 (.p 9 (.z 10 (.nil))))))))))), [(3, []), (3, [0])])
  | 17, 6 => some (some 3, .p 0 (.p 2 (.a 1 (.z 3 (.p 4 (.p 5 (.nil)))))), [(4, []), (5, [])])
  | 8, 12 => some (some 6, .p 0 (.p 1 (.p 2 (.p 3 (.p 4 (.a 5 (.z 6 (.p 7 (.p 8 (.p 9 (.p 10 (.p 11 (.nil)))))))))))), [(0, []), (0, [0]), (1, [])])
  | _, _ => none

end Go.Proofs.YtekhblefchceaaaGreat.AM
