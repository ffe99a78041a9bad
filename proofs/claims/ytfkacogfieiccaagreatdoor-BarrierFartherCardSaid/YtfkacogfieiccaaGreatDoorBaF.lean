import Derived.Test.YtfkacogfieiccaaGreatDoorBaM0
import Derived.Test.YtfkacogfieiccaaGreatDoorBaM1
import Derived.Test.YtfkacogfieiccaaGreatDoorBaM2
import Derived.Test.YtfkacogfieiccaaGreatDoorBaM3
import Derived.Test.YtfkacogfieiccaaGreatDoorFwC
namespace Go.Proofs.YtfkacogfieiccaaGreatDoor
open Go Fw
set_option maxRecDepth 100000
inductive TrOk (P : Program) : Tr → Prop where
 | leaf : TrOk P .leaf
 | node {k : Nat} {v : AFunc} {l r : Tr} : (∃ fn, P.funcs[k]? = some fn ∧ mFn P fn v = true) → TrOk P l → TrOk P r → TrOk P (.node k v l r)
theorem TrOk.ok {P : Program} {t : Tr} (h : TrOk P t) : FOk P t.find := by
 induction h with
 | leaf => intro f af hf; cases hf
 | node h1 _ _ ih1 ih2 =>
  intro f af hf
  simp only [Tr.find] at hf
  split at hf
  ·rename_i e; subst e; cases hf; exact h1
  ·split at hf
   ·exact ih1 f af hf
   ·exact ih2 f af hf
theorem fok : FOk Tryz.prog F := by
 refine TrOk.ok (P := Tryz.prog) (t := FT) ?_
 unfold FT
 exact (.node ⟨_, Tryz.func123, m123⟩ (.node ⟨_, Tryz.func75, m75⟩ (.node ⟨_, Tryz.func40, m40⟩ (.node ⟨_, Tryz.func33, m33⟩ (.node ⟨_, Tryz.func16, m16⟩ (.node ⟨_, Tryz.func13, m13⟩ (.node ⟨_, Tryz.func11, m11⟩ .leaf .leaf) (.node ⟨_, Tryz.func14, m14⟩ .leaf .leaf)) (.node ⟨_, Tryz.func24, m24⟩ (.node ⟨_, Tryz.func17, m17⟩ .leaf .leaf) (.node ⟨_, Tryz.func27, m27⟩ .leaf .leaf))) (.node ⟨_, Tryz.func37, m37⟩ (.node ⟨_, Tryz.func35, m35⟩ (.node ⟨_, Tryz.func34, m34⟩ .leaf .leaf) (.node ⟨_, Tryz.func36, m36⟩ .leaf .leaf)) (.node ⟨_, Tryz.func39, m39⟩ (.node ⟨_, Tryz.func38, m38⟩ .leaf .leaf) .leaf))) (.node ⟨_, Tryz.func61, m61⟩ (.node ⟨_, Tryz.func51, m51⟩ (.node ⟨_, Tryz.func49, m49⟩ (.node ⟨_, Tryz.func48, m48⟩ .leaf .leaf) (.node ⟨_, Tryz.func50, m50⟩ .leaf .leaf)) (.node ⟨_, Tryz.func55, m55⟩ (.node ⟨_, Tryz.func52, m52⟩ .leaf .leaf) (.node ⟨_, Tryz.func59, m59⟩ .leaf .leaf))) (.node ⟨_, Tryz.func72, m72⟩ (.node ⟨_, Tryz.func64, m64⟩ (.node ⟨_, Tryz.func62, m62⟩ .leaf .leaf) (.node ⟨_, Tryz.func71, m71⟩ .leaf .leaf)) (.node ⟨_, Tryz.func74, m74⟩ (.node ⟨_, Tryz.func73, m73⟩ .leaf .leaf) .leaf)))) (.node ⟨_, Tryz.func107, m107⟩ (.node ⟨_, Tryz.func97, m97⟩ (.node ⟨_, Tryz.func90, m90⟩ (.node ⟨_, Tryz.func83, m83⟩ (.node ⟨_, Tryz.func82, m82⟩ .leaf .leaf) (.node ⟨_, Tryz.func84, m84⟩ .leaf .leaf)) (.node ⟨_, Tryz.func95, m95⟩ (.node ⟨_, Tryz.func94, m94⟩ .leaf .leaf) (.node ⟨_, Tryz.func96, m96⟩ .leaf .leaf))) (.node ⟨_, Tryz.func101, m101⟩ (.node ⟨_, Tryz.func99, m99⟩ (.node ⟨_, Tryz.func98, m98⟩ .leaf .leaf) (.node ⟨_, Tryz.func100, m100⟩ .leaf .leaf)) (.node ⟨_, Tryz.func103, m103⟩ (.node ⟨_, Tryz.func102, m102⟩ .leaf .leaf) .leaf))) (.node ⟨_, Tryz.func116, m116⟩ (.node ⟨_, Tryz.func111, m111⟩ (.node ⟨_, Tryz.func109, m109⟩ (.node ⟨_, Tryz.func108, m108⟩ .leaf .leaf) (.node ⟨_, Tryz.func110, m110⟩ .leaf .leaf)) (.node ⟨_, Tryz.func115, m115⟩ (.node ⟨_, Tryz.func112, m112⟩ .leaf .leaf) .leaf)) (.node ⟨_, Tryz.func120, m120⟩ (.node ⟨_, Tryz.func118, m118⟩ (.node ⟨_, Tryz.func117, m117⟩ .leaf .leaf) (.node ⟨_, Tryz.func119, m119⟩ .leaf .leaf)) (.node ⟨_, Tryz.func122, m122⟩ (.node ⟨_, Tryz.func121, m121⟩ .leaf .leaf) .leaf))))) (.node ⟨_, Tryz.func163, m163⟩ (.node ⟨_, Tryz.func141, m141⟩ (.node ⟨_, Tryz.func134, m134⟩ (.node ⟨_, Tryz.func127, m127⟩ (.node ⟨_, Tryz.func125, m125⟩ (.node ⟨_, Tryz.func124, m124⟩ .leaf .leaf) (.node ⟨_, Tryz.func126, m126⟩ .leaf .leaf)) (.node ⟨_, Tryz.func129, m129⟩ (.node ⟨_, Tryz.func128, m128⟩ .leaf .leaf) (.node ⟨_, Tryz.func130, m130⟩ .leaf .leaf))) (.node ⟨_, Tryz.func138, m138⟩ (.node ⟨_, Tryz.func136, m136⟩ (.node ⟨_, Tryz.func135, m135⟩ .leaf .leaf) (.node ⟨_, Tryz.func137, m137⟩ .leaf .leaf)) (.node ⟨_, Tryz.func140, m140⟩ (.node ⟨_, Tryz.func139, m139⟩ .leaf .leaf) .leaf))) (.node ⟨_, Tryz.func155, m155⟩ (.node ⟨_, Tryz.func148, m148⟩ (.node ⟨_, Tryz.func146, m146⟩ (.node ⟨_, Tryz.func144, m144⟩ .leaf .leaf) (.node ⟨_, Tryz.func147, m147⟩ .leaf .leaf)) (.node ⟨_, Tryz.func150, m150⟩ (.node ⟨_, Tryz.func149, m149⟩ .leaf .leaf) (.node ⟨_, Tryz.func153, m153⟩ .leaf .leaf))) (.node ⟨_, Tryz.func160, m160⟩ (.node ⟨_, Tryz.func157, m157⟩ (.node ⟨_, Tryz.func156, m156⟩ .leaf .leaf) (.node ⟨_, Tryz.func158, m158⟩ .leaf .leaf)) (.node ⟨_, Tryz.func162, m162⟩ (.node ⟨_, Tryz.func161, m161⟩ .leaf .leaf) .leaf)))) (.node ⟨_, Tryz.func186, m186⟩ (.node ⟨_, Tryz.func175, m175⟩ (.node ⟨_, Tryz.func167, m167⟩ (.node ⟨_, Tryz.func165, m165⟩ (.node ⟨_, Tryz.func164, m164⟩ .leaf .leaf) (.node ⟨_, Tryz.func166, m166⟩ .leaf .leaf)) (.node ⟨_, Tryz.func173, m173⟩ (.node ⟨_, Tryz.func172, m172⟩ .leaf .leaf) (.node ⟨_, Tryz.func174, m174⟩ .leaf .leaf))) (.node ⟨_, Tryz.func183, m183⟩ (.node ⟨_, Tryz.func178, m178⟩ (.node ⟨_, Tryz.func176, m176⟩ .leaf .leaf) (.node ⟨_, Tryz.func179, m179⟩ .leaf .leaf)) (.node ⟨_, Tryz.func185, m185⟩ (.node ⟨_, Tryz.func184, m184⟩ .leaf .leaf) .leaf))) (.node ⟨_, Tryz.func202, m202⟩ (.node ⟨_, Tryz.func194, m194⟩ (.node ⟨_, Tryz.func192, m192⟩ (.node ⟨_, Tryz.func191, m191⟩ .leaf .leaf) (.node ⟨_, Tryz.func193, m193⟩ .leaf .leaf)) (.node ⟨_, Tryz.func200, m200⟩ (.node ⟨_, Tryz.func199, m199⟩ .leaf .leaf) .leaf)) (.node ⟨_, Tryz.func214, m214⟩ (.node ⟨_, Tryz.func210, m210⟩ (.node ⟨_, Tryz.func208, m208⟩ .leaf .leaf) (.node ⟨_, Tryz.func211, m211⟩ .leaf .leaf)) (.node ⟨_, Tryz.func233, m233⟩ (.node ⟨_, Tryz.func232, m232⟩ .leaf .leaf) .leaf))))))
end Go.Proofs.YtfkacogfieiccaaGreatDoor
