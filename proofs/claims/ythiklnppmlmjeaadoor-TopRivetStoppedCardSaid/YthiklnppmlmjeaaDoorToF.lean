import Derived.Test.YthiklnppmlmjeaaDoorToM0
import Derived.Test.YthiklnppmlmjeaaDoorToM1
import Derived.Test.YthiklnppmlmjeaaDoorToM2
import Derived.Test.YthiklnppmlmjeaaDoorFwC
namespace Go.Proofs.YthiklnppmlmjeaaDoor
open Go Fw
set_option maxRecDepth 100000
inductive TrOk (P : Program) : Tr → Prop where
 | leaf : TrOk P .leaf
 | node {k : Nat} {v : AFunc} {l r : Tr} : (∃ fn, P.funcs[k]? = some fn ∧ mFn P fn v = true) → TrOk P l → TrOk P r → TrOk P (.node k v l r)
theorem TrOk.ok {P : Program} {t : Tr} (h : TrOk P t) : FOk P t.find := by
 induction h with
 | leaf => intro f af hf; cases hf
 | node h1 _ _ ih1 ih2 =>
  intro f af hf
  simp only [Tr.find] at hf
  split at hf
  ·rename_i e; subst e; cases hf; exact h1
  ·split at hf
   ·exact ih1 f af hf
   ·exact ih2 f af hf
theorem fok : FOk Tryd.prog F := by
 refine TrOk.ok (P := Tryd.prog) (t := FT) ?_
 unfold FT
 exact (.node ⟨_, Tryd.func111, m111⟩ (.node ⟨_, Tryd.func64, m64⟩ (.node ⟨_, Tryd.func30, m30⟩ (.node ⟨_, Tryd.func23, m23⟩ (.node ⟨_, Tryd.func15, m15⟩ (.node ⟨_, Tryd.func7, m7⟩ (.node ⟨_, Tryd.func4, m4⟩ .leaf .leaf) (.node ⟨_, Tryd.func8, m8⟩ .leaf .leaf)) (.node ⟨_, Tryd.func21, m21⟩ (.node ⟨_, Tryd.func17, m17⟩ .leaf .leaf) (.node ⟨_, Tryd.func22, m22⟩ .leaf .leaf))) (.node ⟨_, Tryd.func27, m27⟩ (.node ⟨_, Tryd.func25, m25⟩ (.node ⟨_, Tryd.func24, m24⟩ .leaf .leaf) (.node ⟨_, Tryd.func26, m26⟩ .leaf .leaf)) (.node ⟨_, Tryd.func29, m29⟩ (.node ⟨_, Tryd.func28, m28⟩ .leaf .leaf) .leaf))) (.node ⟨_, Tryd.func56, m56⟩ (.node ⟨_, Tryd.func47, m47⟩ (.node ⟨_, Tryd.func44, m44⟩ (.node ⟨_, Tryd.func43, m43⟩ .leaf .leaf) (.node ⟨_, Tryd.func45, m45⟩ .leaf .leaf)) (.node ⟨_, Tryd.func50, m50⟩ (.node ⟨_, Tryd.func48, m48⟩ .leaf .leaf) .leaf)) (.node ⟨_, Tryd.func60, m60⟩ (.node ⟨_, Tryd.func58, m58⟩ (.node ⟨_, Tryd.func57, m57⟩ .leaf .leaf) (.node ⟨_, Tryd.func59, m59⟩ .leaf .leaf)) (.node ⟨_, Tryd.func63, m63⟩ (.node ⟨_, Tryd.func62, m62⟩ .leaf .leaf) .leaf)))) (.node ⟨_, Tryd.func79, m79⟩ (.node ⟨_, Tryd.func72, m72⟩ (.node ⟨_, Tryd.func68, m68⟩ (.node ⟨_, Tryd.func66, m66⟩ (.node ⟨_, Tryd.func65, m65⟩ .leaf .leaf) (.node ⟨_, Tryd.func67, m67⟩ .leaf .leaf)) (.node ⟨_, Tryd.func70, m70⟩ (.node ⟨_, Tryd.func69, m69⟩ .leaf .leaf) (.node ⟨_, Tryd.func71, m71⟩ .leaf .leaf))) (.node ⟨_, Tryd.func76, m76⟩ (.node ⟨_, Tryd.func74, m74⟩ (.node ⟨_, Tryd.func73, m73⟩ .leaf .leaf) (.node ⟨_, Tryd.func75, m75⟩ .leaf .leaf)) (.node ⟨_, Tryd.func78, m78⟩ (.node ⟨_, Tryd.func77, m77⟩ .leaf .leaf) .leaf))) (.node ⟨_, Tryd.func87, m87⟩ (.node ⟨_, Tryd.func83, m83⟩ (.node ⟨_, Tryd.func81, m81⟩ (.node ⟨_, Tryd.func80, m80⟩ .leaf .leaf) (.node ⟨_, Tryd.func82, m82⟩ .leaf .leaf)) (.node ⟨_, Tryd.func86, m86⟩ (.node ⟨_, Tryd.func84, m84⟩ .leaf .leaf) .leaf)) (.node ⟨_, Tryd.func108, m108⟩ (.node ⟨_, Tryd.func106, m106⟩ (.node ⟨_, Tryd.func105, m105⟩ .leaf .leaf) (.node ⟨_, Tryd.func107, m107⟩ .leaf .leaf)) (.node ⟨_, Tryd.func110, m110⟩ (.node ⟨_, Tryd.func109, m109⟩ .leaf .leaf) .leaf))))) (.node ⟨_, Tryd.func178, m178⟩ (.node ⟨_, Tryd.func138, m138⟩ (.node ⟨_, Tryd.func119, m119⟩ (.node ⟨_, Tryd.func115, m115⟩ (.node ⟨_, Tryd.func113, m113⟩ (.node ⟨_, Tryd.func112, m112⟩ .leaf .leaf) (.node ⟨_, Tryd.func114, m114⟩ .leaf .leaf)) (.node ⟨_, Tryd.func117, m117⟩ (.node ⟨_, Tryd.func116, m116⟩ .leaf .leaf) (.node ⟨_, Tryd.func118, m118⟩ .leaf .leaf))) (.node ⟨_, Tryd.func135, m135⟩ (.node ⟨_, Tryd.func121, m121⟩ (.node ⟨_, Tryd.func120, m120⟩ .leaf .leaf) (.node ⟨_, Tryd.func122, m122⟩ .leaf .leaf)) (.node ⟨_, Tryd.func137, m137⟩ (.node ⟨_, Tryd.func136, m136⟩ .leaf .leaf) .leaf))) (.node ⟨_, Tryd.func154, m154⟩ (.node ⟨_, Tryd.func151, m151⟩ (.node ⟨_, Tryd.func140, m140⟩ (.node ⟨_, Tryd.func139, m139⟩ .leaf .leaf) (.node ⟨_, Tryd.func141, m141⟩ .leaf .leaf)) (.node ⟨_, Tryd.func153, m153⟩ (.node ⟨_, Tryd.func152, m152⟩ .leaf .leaf) .leaf)) (.node ⟨_, Tryd.func175, m175⟩ (.node ⟨_, Tryd.func172, m172⟩ (.node ⟨_, Tryd.func155, m155⟩ .leaf .leaf) (.node ⟨_, Tryd.func174, m174⟩ .leaf .leaf)) (.node ⟨_, Tryd.func177, m177⟩ (.node ⟨_, Tryd.func176, m176⟩ .leaf .leaf) .leaf)))) (.node ⟨_, Tryd.func193, m193⟩ (.node ⟨_, Tryd.func186, m186⟩ (.node ⟨_, Tryd.func182, m182⟩ (.node ⟨_, Tryd.func180, m180⟩ (.node ⟨_, Tryd.func179, m179⟩ .leaf .leaf) (.node ⟨_, Tryd.func181, m181⟩ .leaf .leaf)) (.node ⟨_, Tryd.func184, m184⟩ (.node ⟨_, Tryd.func183, m183⟩ .leaf .leaf) (.node ⟨_, Tryd.func185, m185⟩ .leaf .leaf))) (.node ⟨_, Tryd.func190, m190⟩ (.node ⟨_, Tryd.func188, m188⟩ (.node ⟨_, Tryd.func187, m187⟩ .leaf .leaf) (.node ⟨_, Tryd.func189, m189⟩ .leaf .leaf)) (.node ⟨_, Tryd.func192, m192⟩ (.node ⟨_, Tryd.func191, m191⟩ .leaf .leaf) .leaf))) (.node ⟨_, Tryd.func200, m200⟩ (.node ⟨_, Tryd.func197, m197⟩ (.node ⟨_, Tryd.func195, m195⟩ (.node ⟨_, Tryd.func194, m194⟩ .leaf .leaf) (.node ⟨_, Tryd.func196, m196⟩ .leaf .leaf)) (.node ⟨_, Tryd.func199, m199⟩ (.node ⟨_, Tryd.func198, m198⟩ .leaf .leaf) .leaf)) (.node ⟨_, Tryd.func204, m204⟩ (.node ⟨_, Tryd.func202, m202⟩ (.node ⟨_, Tryd.func201, m201⟩ .leaf .leaf) (.node ⟨_, Tryd.func203, m203⟩ .leaf .leaf)) (.node ⟨_, Tryd.func206, m206⟩ (.node ⟨_, Tryd.func205, m205⟩ .leaf .leaf) .leaf))))))
end Go.Proofs.YthiklnppmlmjeaaDoor
