/-
  Terms, literals, rules, facts, as they lie in memory; lists of numbers and texts.
  Conditions: none.
-/
import Derived.Test.YthdfpankebjleaaTy
import Derived.Test.YthdfpankebjleaaAvRow
import Derived.Test.YthdfpankebjleaaAvElem
set_option linter.unusedVariables false
set_option linter.unusedSimpArgs false
set_option maxRecDepth 100000
namespace Go.Proofs.Ythdfpankebjleaa
open Go Go.Av

/-- A new row of zeros. -/
def aMkRow (σ : St) (q : Nat) (es : List (List AV)) (n c : Nat) (k : AV → St → Prop) : Prop := ∀ b, σ b = none → k (.v (.slice (some ⟨b, 0, none⟩) n c)) (σ.set b (.rows q es false c))
theorem aMkRow_intro {σ : St} {q n c : Nat} {es : List (List AV)} {k : AV → St → Prop} (h : ∀ b, σ b = none → (∀ x o, σ x = some o → x ≠ b) → k (.v (.slice (some ⟨b, 0, none⟩) n c)) (σ.set b (.rows q es false c))) : aMkRow σ q es n c k :=
  fun b hb => h b hb fun x o hx e => by subst e; rw [hb] at hx; cases hx
@[go_sem] theorem o_mksl {P : Program} {t : TypeId} {l c : Operand} {fr : Fr} {σ : St} {k : AV → St → Prop} : aOp P (.makeSlice t l c) fr σ k = aMkSl (tk P t) σ (fr.ev l) (fr.ev c) k := _root_.id rfl
@[go_sem] theorem mksl_v {σ : St} {k : AV → St → Prop} {ag byt : Bool} {sz q eby : Nat} {zr ez : List Value} {ik ik' : IntKind} {l c : Int} : aMkSl (some ⟨ag, sz, zr, .sl q eby ez byt⟩) σ (.v (.int ik l)) (.v (.int ik' c)) k = (0 < q ∧ 0 < eby ∧ ez.all Value.oneCell' = true ∧ 0 ≤ l ∧ l ≤ c ∧ (eby : Int) * c ≤ 281474976710656 ∧ aMkRow σ q (List.replicate l.toNat (ez.map .v)) l.toNat c.toNat k) := _root_.id rfl

abbrev ptr (b : Nat) : AV := .v (.pointer (some ⟨b, 0, none⟩))
abbrev int (n : Int) : AV := .v (.int .i64 n)
abbrev boo (b : Bool) : AV := .v (.bool b)
abbrev str (s : ByteArray) : AV := .v (.string s)
abbrev nilS : AV := .v (.slice none 0 0)
abbrev emp : ByteArray := ⟨#[]⟩

/-- A term: a variable, or a constant (a number or a text). -/
structure Tm where
  v : ByteArray
  b : Bool
  n : Int
  s : ByteArray
deriving DecidableEq
def Tm.cs (t : Tm) : List AV := [str t.v, boo t.b, int t.n, str t.s]
def Tm.zero : Tm := ⟨emp, false, 0, emp⟩
@[go_sem] theorem Tm.len (t : Tm) : t.cs.length = 4 := rfl
@[go_sem] theorem Tm.one (t : Tm) : t.cs.all AV.one = true := rfl
@[go_sem] theorem Tm.take (t : Tm) : t.cs.take 4 = t.cs := rfl
@[go_sem] theorem Tm.at0 (t : Tm) : t.cs.getD 0 (.v undef) = str t.v := rfl
def tmC (l : List Tm) : List (List AV) := l.map Tm.cs
@[go_sem] theorem tmC_len (l : List Tm) : (tmC l).length = l.length := by simp [tmC]
theorem tmC_get {l : List Tm} {i : Nat} (h : i < l.length) : (tmC l).getD i [] = l[i].cs := by simp [tmC, List.getD_eq_getElem?_getD, h]

/-- A literal: who says it, its name, its arguments, at whom. -/
structure Li where
  by' : Tm
  nm : ByteArray
  ar : List Tm
  at' : Tm
def Li.cs (l : Li) : List AV := [str l.by'.v, boo l.by'.b, int l.by'.n, str l.by'.s, str l.nm, .sl 4 (tmC l.ar), str l.at'.v, boo l.at'.b, int l.at'.n, str l.at'.s]
@[go_sem] theorem Li.len (l : Li) : l.cs.length = 10 := rfl
@[go_sem] theorem Li.one (l : Li) : l.cs.all AV.one = true := rfl
@[go_sem] theorem Li.take (l : Li) : l.cs.take 10 = l.cs := rfl
@[go_sem] theorem Li.at4 (l : Li) : l.cs.getD 4 (.v undef) = str l.nm := rfl
@[go_sem] theorem Li.at5 (l : Li) : l.cs.getD 5 (.v undef) = .sl 4 (tmC l.ar) := rfl
@[go_sem] theorem Li.at0 (l : Li) : l.cs.getD 0 (.v undef) = str l.by'.v := rfl
@[go_sem] theorem Li.at6 (l : Li) : l.cs.getD 6 (.v undef) = str l.at'.v := rfl
@[go_sem] theorem Li.by0 (l : Li) : l.cs.take 4 = l.by'.cs := rfl
@[go_sem] theorem Li.atm (l : Li) : (l.cs.drop 6).take 4 = l.at'.cs := rfl
@[go_sem] theorem Li.nm4 (l : Li) : (l.cs.drop 4).getD 0 (.v undef) = str l.nm := rfl
@[go_sem] theorem Li.ar5 (l : Li) : (l.cs.drop 5).getD 0 (.v undef) = .sl 4 (tmC l.ar) := rfl
@[go_sem] theorem Li.at60 (l : Li) : (l.cs.drop 6).getD 0 (.v undef) = str l.at'.v := rfl
def liC (l : List Li) : List (List AV) := l.map Li.cs
@[go_sem] theorem liC_len (l : List Li) : (liC l).length = l.length := by simp [liC]
theorem liC_get {l : List Li} {i : Nat} (h : i < l.length) : (liC l).getD i [] = l[i].cs := by simp [liC, List.getD_eq_getElem?_getD, h]

/-- A rule: whose, its head, its body. -/
structure Rl where
  ho : Tm
  nm : ByteArray
  ar : List Tm
  at' : Tm
  bo : List Li
def Rl.cs (r : Rl) : List AV := [str r.ho.v, boo r.ho.b, int r.ho.n, str r.ho.s, str r.nm, .sl 4 (tmC r.ar), str r.at'.v, boo r.at'.b, int r.at'.n, str r.at'.s, .sl 10 (liC r.bo)]
@[go_sem] theorem Rl.len (r : Rl) : r.cs.length = 11 := rfl
@[go_sem] theorem Rl.one (r : Rl) : r.cs.all AV.one = true := rfl
@[go_sem] theorem Rl.take (r : Rl) : r.cs.take 11 = r.cs := rfl
@[go_sem] theorem Rl.at0 (r : Rl) : r.cs.getD 0 (.v undef) = str r.ho.v := rfl
@[go_sem] theorem Rl.at10 (r : Rl) : r.cs.getD 10 (.v undef) = .sl 10 (liC r.bo) := rfl
@[go_sem] theorem Rl.ho0 (r : Rl) : r.cs.take 4 = r.ho.cs := rfl
@[go_sem] theorem Rl.nm4 (r : Rl) : (r.cs.drop 4).getD 0 (.v undef) = str r.nm := rfl
@[go_sem] theorem Rl.ar5 (r : Rl) : (r.cs.drop 5).getD 0 (.v undef) = .sl 4 (tmC r.ar) := rfl
@[go_sem] theorem Rl.bo10 (r : Rl) : (r.cs.drop 10).getD 0 (.v undef) = .sl 10 (liC r.bo) := rfl

def inC (l : List Int) : List (List AV) := l.map fun n => [int n]
@[go_sem] theorem inC_len (l : List Int) : (inC l).length = l.length := by simp [inC]
theorem inC_get {l : List Int} {i : Nat} (h : i < l.length) : (inC l).getD i [] = [int l[i]] := by simp [inC, List.getD_eq_getElem?_getD, h]
def stC (l : List ByteArray) : List (List AV) := l.map fun s => [str s]
@[go_sem] theorem stC_len (l : List ByteArray) : (stC l).length = l.length := by simp [stC]
theorem stC_get {l : List ByteArray} {i : Nat} (h : i < l.length) : (stC l).getD i [] = [str l[i]] := by simp [stC, List.getD_eq_getElem?_getD, h]

/-- What can be read of a slice: of a frozen one, or of one that the walk owns. -/
def Rd (q : Nat) (σ : St) (lv : AV) (es : List (List AV)) : Prop := lv = .sl q es ∨ LAt q σ lv es
section
variable {q : Nat} {σ σ' : St} {lv : AV} {es : List (List AV)} {K : AV → Prop}
theorem Rd.sl : Rd q σ (.sl q es) es := .inl rfl
theorem Rd.of (h : LAt q σ lv es) : Rd q σ lv es := .inr h
theorem Rd.len {ag : Bool} {sz eby : Nat} {zr ez : List Value} {byt : Bool} (h : Rd q σ lv es) : aLen (some ⟨ag, sz, zr, .sl q eby ez byt⟩) lv K = K (.v (.int .i64 es.length)) := by
  rcases h with rfl | h
  · rfl
  · exact h.len
theorem Rd.elem {ag : Bool} {sz eby : Nat} {zr ez : List Value} {byt : Bool} {ik : IntKind} {j : Int} (h : Rd q σ lv es) (h0 : 0 ≤ j) (h1 : j < es.length)
    (hk : ∀ p, EAt q σ p (es.getD j.toNat []) 0 → K p) : aIadr (some ⟨ag, sz, zr, .sl q eby ez byt⟩) σ lv (.v (.int ik j)) K := by
  rcases h with rfl | h
  · exact ⟨rfl, h0, h1, hk _ (.inl (by simp))⟩
  · exact h.elem h0 h1 hk
theorem Rd.keep (h : Rd q σ lv es) (hs : ∀ x o, σ x = some o → σ' x = some o) : Rd q σ' lv es := h.imp _root_.id fun h => h.keep fun x o hx _ => hs x o hx
end
theorem lat_src {q : Nat} {byt : Bool} {σ : St} {lv : AV} {es : List (List AV)} (hq : 0 < q) (h : LAt q σ lv es) : src q byt σ lv = some es := by
  rcases h with ⟨rfl, rfl⟩ | rfl | ⟨b, cap, rfl, hc, hb⟩
  · simp [src]
  · simp [src]
  · simp only [src, hb]
    rw [if_pos ⟨trivial, by simp, by simp⟩]
    simp
theorem lat_set {q b : Nat} {o o' : AObj} {σ : St} {lv : AV} {es : List (List AV)} (h : LAt q σ lv es) (hb : σ b = some o) (hn : ¬ Own lv b) : LAt q (σ.set b o') lv es :=
  h.keep fun x p hx ho => by
    have : x ≠ b := fun e => by subst e; exact hn ho
    rw [set_ne this]; exact hx

end Go.Proofs.Ythdfpankebjleaa
