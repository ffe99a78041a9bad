import Derived.Test.YthiklnppmlmjeaaDoorToM0
import Derived.Test.YthiklnppmlmjeaaDoorToM1
import Derived.Test.YthiklnppmlmjeaaDoorToM2
import Derived.Test.YthiklnppmlmjeaaDoorFwC
namespace Go.Proofs.YthiklnppmlmjeaaDoor
open Go Fw
set_option maxRecDepth 100000
inductive TrOk (P : Program) : Tr → Prop where
 | leaf : TrOk P .leaf
 | node {k : Nat} {v : AFunc} {l r : Tr} : (∃ fn, P.funcs[k]? = some fn ∧ mFn P fn v = true) → TrOk P l → TrOk P r → TrOk P (.node k v l r)
theorem TrOk.ok {P : Program} {t : Tr} (h : TrOk P t) : FOk P t.find := by
 induction h with
 | leaf => intro f af hf; cases hf
 | node h1 _ _ ih1 ih2 =>
  intro f af hf
  simp only [Tr.find] at hf
  split at hf
  ·rename_i e; subst e; cases hf; exact h1
  ·split at hf
   ·exact ih1 f af hf
   ·exact ih2 f af hf
theorem fok : FOk Tryd.prog F := by
 refine TrOk.ok (P := Tryd.prog) (t := FT) ?_
 unfold FT
 exact (.node ⟨_, Tryd.func105, m105⟩ (.node ⟨_, Tryd.func50, m50⟩ (.node ⟨_, Tryd.func17, m17⟩ (.node ⟨_, Tryd.func11, m11⟩ (.node ⟨_, Tryd.func8, m8⟩ (.node ⟨_, Tryd.func7, m7⟩ (.node ⟨_, Tryd.func3, m3⟩ .leaf .leaf) .leaf) (.node ⟨_, Tryd.func10, m10⟩ (.node ⟨_, Tryd.func9, m9⟩ .leaf .leaf) .leaf)) (.node ⟨_, Tryd.func14, m14⟩ (.node ⟨_, Tryd.func13, m13⟩ (.node ⟨_, Tryd.func12, m12⟩ .leaf .leaf) .leaf) (.node ⟨_, Tryd.func16, m16⟩ (.node ⟨_, Tryd.func15, m15⟩ .leaf .leaf) .leaf))) (.node ⟨_, Tryd.func44, m44⟩ (.node ⟨_, Tryd.func20, m20⟩ (.node ⟨_, Tryd.func19, m19⟩ (.node ⟨_, Tryd.func18, m18⟩ .leaf .leaf) .leaf) (.node ⟨_, Tryd.func43, m43⟩ (.node ⟨_, Tryd.func21, m21⟩ .leaf .leaf) .leaf)) (.node ⟨_, Tryd.func47, m47⟩ (.node ⟨_, Tryd.func46, m46⟩ (.node ⟨_, Tryd.func45, m45⟩ .leaf .leaf) .leaf) (.node ⟨_, Tryd.func49, m49⟩ (.node ⟨_, Tryd.func48, m48⟩ .leaf .leaf) .leaf)))) (.node ⟨_, Tryd.func62, m62⟩ (.node ⟨_, Tryd.func56, m56⟩ (.node ⟨_, Tryd.func53, m53⟩ (.node ⟨_, Tryd.func52, m52⟩ (.node ⟨_, Tryd.func51, m51⟩ .leaf .leaf) .leaf) (.node ⟨_, Tryd.func55, m55⟩ (.node ⟨_, Tryd.func54, m54⟩ .leaf .leaf) .leaf)) (.node ⟨_, Tryd.func59, m59⟩ (.node ⟨_, Tryd.func58, m58⟩ (.node ⟨_, Tryd.func57, m57⟩ .leaf .leaf) .leaf) (.node ⟨_, Tryd.func61, m61⟩ (.node ⟨_, Tryd.func60, m60⟩ .leaf .leaf) .leaf))) (.node ⟨_, Tryd.func100, m100⟩ (.node ⟨_, Tryd.func80, m80⟩ (.node ⟨_, Tryd.func64, m64⟩ (.node ⟨_, Tryd.func63, m63⟩ .leaf .leaf) .leaf) (.node ⟨_, Tryd.func82, m82⟩ (.node ⟨_, Tryd.func81, m81⟩ .leaf .leaf) .leaf)) (.node ⟨_, Tryd.func103, m103⟩ (.node ⟨_, Tryd.func102, m102⟩ (.node ⟨_, Tryd.func101, m101⟩ .leaf .leaf) .leaf) (.node ⟨_, Tryd.func104, m104⟩ .leaf .leaf))))) (.node ⟨_, Tryd.func184, m184⟩ (.node ⟨_, Tryd.func151, m151⟩ (.node ⟨_, Tryd.func111, m111⟩ (.node ⟨_, Tryd.func108, m108⟩ (.node ⟨_, Tryd.func107, m107⟩ (.node ⟨_, Tryd.func106, m106⟩ .leaf .leaf) .leaf) (.node ⟨_, Tryd.func110, m110⟩ (.node ⟨_, Tryd.func109, m109⟩ .leaf .leaf) .leaf)) (.node ⟨_, Tryd.func137, m137⟩ (.node ⟨_, Tryd.func136, m136⟩ (.node ⟨_, Tryd.func135, m135⟩ .leaf .leaf) .leaf) (.node ⟨_, Tryd.func146, m146⟩ (.node ⟨_, Tryd.func145, m145⟩ .leaf .leaf) .leaf))) (.node ⟨_, Tryd.func178, m178⟩ (.node ⟨_, Tryd.func175, m175⟩ (.node ⟨_, Tryd.func174, m174⟩ (.node ⟨_, Tryd.func172, m172⟩ .leaf .leaf) .leaf) (.node ⟨_, Tryd.func177, m177⟩ (.node ⟨_, Tryd.func176, m176⟩ .leaf .leaf) .leaf)) (.node ⟨_, Tryd.func181, m181⟩ (.node ⟨_, Tryd.func180, m180⟩ (.node ⟨_, Tryd.func179, m179⟩ .leaf .leaf) .leaf) (.node ⟨_, Tryd.func183, m183⟩ (.node ⟨_, Tryd.func182, m182⟩ .leaf .leaf) .leaf)))) (.node ⟨_, Tryd.func196, m196⟩ (.node ⟨_, Tryd.func190, m190⟩ (.node ⟨_, Tryd.func187, m187⟩ (.node ⟨_, Tryd.func186, m186⟩ (.node ⟨_, Tryd.func185, m185⟩ .leaf .leaf) .leaf) (.node ⟨_, Tryd.func189, m189⟩ (.node ⟨_, Tryd.func188, m188⟩ .leaf .leaf) .leaf)) (.node ⟨_, Tryd.func193, m193⟩ (.node ⟨_, Tryd.func192, m192⟩ (.node ⟨_, Tryd.func191, m191⟩ .leaf .leaf) .leaf) (.node ⟨_, Tryd.func195, m195⟩ (.node ⟨_, Tryd.func194, m194⟩ .leaf .leaf) .leaf))) (.node ⟨_, Tryd.func202, m202⟩ (.node ⟨_, Tryd.func199, m199⟩ (.node ⟨_, Tryd.func198, m198⟩ (.node ⟨_, Tryd.func197, m197⟩ .leaf .leaf) .leaf) (.node ⟨_, Tryd.func201, m201⟩ (.node ⟨_, Tryd.func200, m200⟩ .leaf .leaf) .leaf)) (.node ⟨_, Tryd.func205, m205⟩ (.node ⟨_, Tryd.func204, m204⟩ (.node ⟨_, Tryd.func203, m203⟩ .leaf .leaf) .leaf) (.node ⟨_, Tryd.func206, m206⟩ .leaf .leaf))))))
end Go.Proofs.YthiklnppmlmjeaaDoor
